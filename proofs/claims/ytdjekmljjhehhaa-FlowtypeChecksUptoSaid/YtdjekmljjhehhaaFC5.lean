/- Parts of one proof, put together: P21 P22L P23L P24 P25 P26 P27 S2 S5 S6 P28 P29 P30 D7f P31 P32 P33 P34 P35 P22 P23 P36. -/
import Derived.Test.YtdjekmljjhehhaaFC4
set_option maxHeartbeats 8000000
set_option maxRecDepth 10000
namespace Go.Ab
open Go.Proofs
theorem idxQ_spec {q : Nat → Bool} {n i : Nat} (h : idxQ q n = (i : Nat)) : q i = true ∧ i < n ∧ ∀ j, j < i → q j = false := by
 unfold idxQ at h;cases hf : (List.range n).find? q with
 | none => rw [hf] at h; simp only at h; omega
 | some k =>
  rw [hf] at h;simp only at h;obtain rfl : k = i := by omega
  rw [List.find?_eq_some_iff_getElem] at hf;obtain ⟨h1, k', h2, h3, h4⟩ := hf;rw [List.getElem_range] at h3;subst h3;refine ⟨h1, by simpa using h2, fun j hj => ?_⟩;have := h4 j hj;rw [List.getElem_range] at this;simpa using this
theorem last_bad {y : FunL} {j : Nat} (hj : j < y.body.length) (h : ((kinds y).getD j 0 == 9) ≠ ((j : Int) == (y.body.length : Int) - 1)) : (decide (lastN y < 0) || (lastN y != (y.body.length : Int) - 1)) = true := by
 cases e : (decide (lastN y < 0) || (lastN y != (y.body.length : Int) - 1)) with
 | true => rfl
 | false =>
  exfalso
  simp only [Bool.or_eq_false_iff, dff, bne_eq_false_iff_eq] at e;obtain ⟨k, hk⟩ : ∃ k : Nat, lastN y = k := ⟨(lastN y).toNat, by omega⟩;obtain ⟨h1, h2, h3⟩ := idxQ_spec (show idxQ _ _ = (k : Int) from hk)
  apply h
  have hk1 : (k : Int) = (y.body.length : Int) - 1 := by omega
  rcases Nat.lt_trichotomy j k with hl | rfl | hl
  ·rw [h3 j hl]
   symm
   rw [bff]; omega
  ·rw [h1]; symm; rw [beq_iff_eq]; exact hk1
  ·omega
theorem last_ok {y : FunL} (h0 : y.body.length ≠ 0) (h : ∀ j, j < y.body.length → ((kinds y).getD j 0 == 9) = ((j : Int) == (y.body.length : Int) - 1)) : (decide (lastN y < 0) || (lastN y != (y.body.length : Int) - 1)) = false := by
 have e : lastN y = (y.body.length - 1 : Nat) := by
  unfold lastN;refine idxQ_hit (fun j hj => ?_) (by omega) ?_
  ·rw [h j (by omega), bff]; omega
  ·rw [h _ (by omega), beq_iff_eq]; omega
 rw [e];simp only [Bool.or_eq_false_iff, dff, bne_eq_false_iff_eq];omega
theorem nest_head {y : FunL} : (!(ends1 (kinds y)).isSome || decide ((deepA (kinds y) y.body.length).2 > 12)) = !nestN (kinds y) := by
 unfold nestN;rw [ends_same, show (kinds y).length = y.body.length by rw [kinds, lmm]];have h : decide ((deepA (kinds y) y.body.length).2 > 12) = !decide ((deepA (kinds y) y.body.length).2 ≤ 12) := by
  by_cases h : (deepA (kinds y) y.body.length).2 ≤ 12
  ·rw [decide_eq_true h, decide_eq_false (by omega)]; rfl
  ·rw [decide_eq_false h, decide_eq_true (by omega)]; rfl
 rw [h];cases (ends2 (kinds y)).isSome <;> cases decide ((deepA (kinds y) y.body.length).2 ≤ 12) <;> rfl
def dN (ns : List ByteArray) (nm : ByteArray) (j : Nat) : Bool := (List.range j).any fun i => eqS (ns.getD i ByteArray.empty) nm
theorem dN_succ (ns : List ByteArray) (nm : ByteArray) (j : Nat) : dN ns nm (j + 1) = (dN ns nm j || eqS (ns.getD j ByteArray.empty) nm) := by
 unfold dN; rw [List.range_succ, List.any_append]; simp
theorem fi_any {ns : List ByteArray} {nm : ByteArray} {i : Nat} (hi : i ≤ ns.length) : decide (0 ≤ fiI (ns.take i) nm) = dN ns nm i := by
 cases e : dN ns nm i with
 | true =>
  unfold dN at e;rw [List.any_eq_true] at e;obtain ⟨j, hj, hq⟩ := e;have hj : j < i := by simpa using hj
  exact dup_t (j := j) (by rw [List.length_take]; omega) (by rw [getD_take hj]; exact hq)
 | false =>
  unfold dN at e;rw [List.any_eq_false] at e;refine dup_f fun j hj => ?_;have hj' : j < i := by rw [List.length_take] at hj; omega
  rw [getD_take hj'];have := e j (by simpa using hj');simpa using this
def lN (y : FunL) : List ByteArray := (locsL y).map DeclL.name
theorem lN_at {y : FunL} {j : Nat} {d : DeclL} (h : (locsL y)[j]? = some d) : (lN y).getD j ByteArray.empty = d.name := by
 rw [lN, gdd, gmm, h]; rfl
section
variable {s : SrcL} {k i : Nat} {y : FunL} {d : DeclL} {A B : List (Bool × Flt)} {b : Bool} {f : Flt}
theorem locT_at (h : (locsL y)[i]? = some d) : locT s k y i = [(!nameOk d.name, ⟨1, k, -1⟩), ((gN s d.name).1 != 0 || dN (lN y) d.name i, ⟨70, k, -1⟩), (forN s.principals.length d.label, ⟨10, k, -1⟩)] := by
 unfold locT;rw [h];simp only;rw [List.map_take, fi_any (by rw [lmm]; have := (ges.1 h).1; omega)]
 rfl
theorem resT_at {l : Int} (h : y.results[i]? = some l) : resT s k y i = [(forN s.principals.length l, ⟨10, k, -1⟩)] := by unfold resT; rw [h]
theorem hA_hit (hg : headA s k y = A ++ (b, f) :: B) (hA : Off A) (hb : b = true) : firstF (headT s k y) = f := by
 subst hb;unfold headT;rw [hg, aas, aas, aas, List.cons_append];exact firstF_on hA
theorem hL_hit (hi : i < (locsL y).length) (h0 : Off (headA s k y)) (h1 : Off ((List.range i).flatMap (locT s k y))) (hg : locT s k y i = A ++ (b, f) :: B) (hA : Off A) (hb : b = true) : firstF (headT s k y) = f := by
 unfold headT;rw [aas];exact flat_hit hi h0 h1 hg hA hb
theorem hR_hit (hi : i < y.results.length) (h0 : Off (headA s k y)) (h1 : Off ((List.range (locsL y).length).flatMap (locT s k y))) (h2 : Off ((List.range i).flatMap (resT s k y))) (hg : resT s k y i = A ++ (b, f) :: B) (hA : Off A) (hb : b = true) : firstF (headT s k y) = f := by
 unfold headT;exact flat_hit hi (h0.app h1) h2 hg hA hb
theorem hZ_hit (h0 : Off (headA s k y)) (h1 : Off ((List.range (locsL y).length).flatMap (locT s k y))) (h2 : Off ((List.range y.results.length).flatMap (resT s k y))) (hg : headZ k y = A ++ (b, f) :: B) (hA : Off A) (hb : b = true) : firstF (headT s k y) = f := by
 subst hb;unfold headT;rw [hg, ← aas];exact firstF_on (((h0.app h1).app h2).app hA)
theorem headZ_eq : headZ k y = [(!nestN (kinds y), ⟨50, k, -1⟩), (decide (lastN y < 0) || (lastN y != (y.body.length : Int) - 1), ⟨50, k, -1⟩)] := by
 unfold headZ; rw [nest_head]
end
theorem head_ref_ok {s : St} {c : List AV} {x : SrcL} {k : Nat} {y : FunL} (hok : s.Ok) (hx : x.small) (hfi : x.fine) (hv : SrcP x c) (hy : x.funcs[k]? = some y) :
  CallS Try.prog Tt Kt 68 [.agg c, .int .i64 (k : Nat)] s fun r s' => Keep [] s s' ∧ r = .agg (fltC (firstF (headT x k y))) := by
 have hz := hv.leaf;obtain ⟨vp, vg, va, vc, vf, rfl, hvp, hvg, hva, hvc, csf, hrf, hlf, hF⟩ := id hv;obtain ⟨hl1, hl2, hl3, hl4, hl5, hsm⟩ := id hx;have hsf : vf.slen = some x.funcs.length := by rw [hrf.slen, hlf]
 obtain ⟨cy, hcy⟩ : ∃ c, csf[k]? = some c := ⟨_, gee (by rw [hlf]; exact (ges.1 hy).1)⟩;have hkl := (ges.1 hy).1;obtain ⟨yp, yr, yv, yb, rfl, hyp, hyr, hyv, hyb⟩ := hF k y cy hy hcy;obtain ⟨hy1, hy2, hy3, hy4, hy5⟩ := id (hsm y (mog hy));obtain ⟨hg1, hg2, hg3, hg4, hg5⟩ := hfi.2.2.2.2 y (mog hy);have hzy : ([.str y.name, .int .u64 y.level, yp, yr, yv, yb] : List AV).all AV.leaf = true := (hrf.cells _ (mog hcy)).2;have hkr : KindsR .leaf yb (kinds y) := KindsR.of hyb;obtain ⟨csb, hbr, hbl, hbE⟩ := id hyb;have hsb : yb.slen = some y.body.length := by rw [hbr.slen, hbl]
 have hlf2 : ∀ d ∈ locsL y, d.fine := fun d hd => (List.mem_append.1 hd).elim (hg3 d) (hg5 d);have hll : (locsL y).length ≤ 4194304 := by rw [locsL, laa]; omega
 have hlo : locN x (k : Nat) = locsL y := locN_in hy;refine cof 160 Try.func68 ?_;refine aq0 ?_;have hS := SH.start hok;refine aq0 ?_;refine ws_box hS rfl rfl rfl hz ?_;rintro p0 z hS hk;have hS : SH _ [_] z _ := hS;refine ws_alloc hS rfl rfl rfl rfl ?_;rintro p1 z hS hk;have hS : SH _ [_, _] z _ := hS;refine aq1 ?_;refine wvz (v := vf) (oL 0 hS) ?_;refine aq1 ?_;refine wvz (oI (RowP.up hrf _)) ?_;refine wvz (oM (Row.pt (RowP.up hrf z.h) hcy)) ?_;refine ws_alloc hS rfl rfl rfl rfl ?_;rintro p2 z hS hk;have hS : SH _ [_, _, _] z _ := hS;refine ws_store 2 hS rfl rfl rfl rfl rfl rfl hzy (nl rfl) ?_;rintro z hS;have hS : SH _ [_, _, _] z _ := hS;have hK := hS.K;refine aq0 ?_;have hS : SH s [ptC (.ptr p0 0 0) [vp, vg, va, vc, vf], ptC (.ptr p1 0 0) [.int .i64 0, .int .i64 0, .int .i64 0], ptC (.ptr p2 0 0) [.str y.name, .int .u64 y.level, yp, yr, yv, yb]] z := hS;refine aq1 ?_;refine wvz (v := yp) (oL 2 hS) ?_;refine wvz (op_len rfl rfl rfl rfl rfl (RowP.slen hyp |>.trans (by rw [lmm]))) ?_;refine aq2 ?_;refine w_split (i := 24) rfl (fun h24 => ?_) (fun h24 => ?_)
 ·simp only [dtt, gt_iff_lt] at h24;refine aq12 ?_;refine aq5 ?_;refine wc_cond_t rfl ?_;refine aq1 ?_;refine wkz (at_ok hS.ok) ?_;rintro _ z ⟨hk, rfl⟩;have hS := hS.mov hk;refine ws_store 1 hS rfl rfl rfl rfl rfl rfl (by rfl) (nl rfl) ?_;rintro z hS;have hS : SH _ [_, _, _] z _ := hS;have hK := hS.K;refine aq0 ?_;exact ⟨_, res_cell rfl rfl (hS.pt 1 rfl) rfl, hK, by rw [hA_hit (A := []) rfl Off.nil (many_t (by omega))]; rfl⟩
 simp only [dff, gt_iff_lt] at h24;refine aq1 ?_;refine wvz (v := yr) (oL 2 hS) ?_;refine wvz (op_len rfl rfl rfl rfl rfl (RowP.slen hyr |>.trans (by rw [lmm]))) ?_;refine aq3 ?_;refine w_split (i := 30) rfl (fun h30 => ?_) (fun h30 => ?_)
 ·simp only [dtt, gt_iff_lt] at h30;refine aq11 ?_;refine wc_cond_t rfl ?_;refine aq1 ?_;refine wkz (at_ok hS.ok) ?_;rintro _ z ⟨hk, rfl⟩;have hS := hS.mov hk;refine ws_store 1 hS rfl rfl rfl rfl rfl rfl (by rfl) (nl rfl) ?_;rintro z hS;have hS : SH _ [_, _, _] z _ := hS;have hK := hS.K;refine aq0 ?_;exact ⟨_, res_cell rfl rfl (hS.pt 1 rfl) rfl, hK, by rw [hA_hit (A := []) rfl Off.nil (many_t (by omega))]; rfl⟩
 simp only [dff, gt_iff_lt] at h30;refine aq1 ?_;refine wvz (v := yv) (oL 2 hS) ?_;refine wvz (op_len rfl rfl rfl rfl rfl (RowP.slen hyv |>.trans (by rw [lmm]))) ?_;refine aq3 ?_;refine w_split (i := 36) rfl (fun h36 => ?_) (fun h36 => ?_)
 ·simp only [dtt, gt_iff_lt] at h36;refine aq5 ?_;refine wc_cond_t rfl ?_;refine aq1 ?_;refine wkz (at_ok hS.ok) ?_;rintro _ z ⟨hk, rfl⟩;have hS := hS.mov hk;refine ws_store 1 hS rfl rfl rfl rfl rfl rfl (by rfl) (nl rfl) ?_;rintro z hS;have hS : SH _ [_, _, _] z _ := hS;have hK := hS.K;refine aq0 ?_;exact ⟨_, res_cell rfl rfl (hS.pt 1 rfl) rfl, hK, by rw [hA_hit (A := []) rfl Off.nil (many_t (by omega))]; rfl⟩
 simp only [dff, gt_iff_lt] at h36;refine aq1 ?_;refine wvz (v := yb) (oL 2 hS) ?_;refine wvz (oN hsb) ?_;refine aq2 ?_;refine wc_condT rfl (fun h41 => ?_) (fun h41 => ?_)
 ·simp only [dtt, gt_iff_lt] at h41;refine aq1 ?_;refine wkz (at_ok hS.ok) ?_;rintro _ z ⟨hk, rfl⟩;have hS := hS.mov hk;refine ws_store 1 hS rfl rfl rfl rfl rfl rfl (by rfl) (nl rfl) ?_;rintro z hS;have hS : SH _ [_, _, _] z _ := hS;have hK := hS.K;refine aq0 ?_;exact ⟨_, res_cell rfl rfl (hS.pt 1 rfl) rfl, hK, by rw [hA_hit (A := []) rfl Off.nil (many_t (by omega))]; rfl⟩
 simp only [dff, gt_iff_lt] at h41;refine aq0 ?_;have hmany : manyN y = false := by rw [many_l (by omega) (by omega) (by omega)]; exact decide_eq_false (by omega)
 refine aq0 ?_;refine wvz (v := .agg [vp, vg, va, vc, vf]) (oL 0 hS) ?_;refine aq1 ?_;refine wvz (v := .int .u64 y.level) (oL 2 hS) ?_;refine wkz (foreign_ref_ok hS.ok hx hv hg2) ?_;rintro _ z ⟨hk, rfl⟩;have hS := hS.mov hk;have hK := hS.K;refine aq0 ?_;refine wc_condT rfl (fun h47 => ?_) (fun h47 => ?_)
 ·refine aq1 ?_;refine wkz (at_ok hS.ok) ?_;rintro _ z ⟨hk, rfl⟩;have hS := hS.mov hk;refine ws_store 1 hS rfl rfl rfl rfl rfl rfl (by rfl) (nl rfl) ?_;rintro z hS;have hS : SH _ [_, _, _] z _ := hS;have hK := hS.K;refine aq0 ?_;exact ⟨_, res_cell rfl rfl (hS.pt 1 rfl) rfl, hK, by rw [hA_hit (A := [_]) rfl (Off.cons hmany Off.nil) h47]; rfl⟩
 refine aq0 ?_;refine wvz (v := .agg [vp, vg, va, vc, vf]) (oL 0 hS) ?_;refine aq1 ?_;refine wkz (locals_ok hS.ok hx hv) ?_;rintro v6 z ⟨hk, h6⟩;rw [hlo] at h6;have hS := hS.mov hk;have hK := hS.K;have hOA : Off (headA x k y) := Off.cons hmany (Off.cons h47 Off.nil);refine aq2 ?_;refine wc_loop_at (fun jj m z => ∃ i : Nat, jj = (locsL y).length - i ∧ i ≤ (locsL y).length ∧ m = [(1, .int .i64 (k : Nat)), (2, .ptr p0 0 0), (4, .ptr p1 0 0), (5, .ptr p2 0 0), (6, v6), (7, .int .i64 (i : Nat))] ∧ SH s [ptC (.ptr p0 0 0) [vp, vg, va, vc, vf], ptC (.ptr p1 0 0) [.int .i64 0, .int .i64 0, .int .i64 0], ptC (.ptr p2 0 0) [.str y.name, .int .u64 y.level, yp, yr, yv, yb]] z ∧ Off ((List.range i).flatMap (locT x k y))) (locsL y).length
  [(1, .int .i64 (k : Nat)), (2, .ptr p0 0 0), (4, .ptr p1 0 0), (5, .ptr p2 0 0), (6, v6), (7, .int .i64 ((0 : Nat) : Int))] (scn rfl (scn rfl (scn rfl (scn rfl (scn rfl (scn rfl (Sub.nil _))))))) ⟨0, by simp, by simp, rfl, hS, Off.nil⟩ ?_
 clear hS hK;rintro jj m z ⟨i, rfl, hi, rfl, hS, hO⟩;have hK := hS.K;refine aq2 ?_;refine wvz (op_len rfl rfl rfl rfl rfl (RowP.slen h6 |>.trans (by rw [lmm]))) ?_;refine aq1 ?_;refine wcd (fun h56 => ?_) (fun h56 => ?_)
 ·refine aq0 ?_;obtain ⟨d, hd⟩ : ∃ d, (locsL y)[i]? = some d := ⟨_, gee (by omega)⟩;obtain ⟨hdn, hdl⟩ := hlf2 d (mog hd);have hlt := locT_at (s := x) (k := k) hd;have hgn : fN x (-1) d.name = gN x d.name := fN_out (by omega);refine aq2 ?_;refine wvz (oJ (RowP.up h6 z.h)) ?_;refine wvz (oF (Row.mk_pt (RowP.up h6 z.h) hd)) ?_;refine wvz (v := .str d.name) (oM (Pt.fld (Row.mk_pt (RowP.up h6 z.h) hd) _ (nl rfl))) ?_;refine wkz (name_ref_ok hS.ok hdn) ?_;rintro _ z ⟨hk, rfl⟩;have hS := hS.mov hk;have hK := hS.K;refine aq1 ?_;refine wc_condT rfl (fun h65 => ?_) (fun h65 => ?_)
  ·refine aq1 ?_;refine wkz (at_ok hS.ok) ?_;rintro _ z ⟨hk, rfl⟩;have hS := hS.mov hk;refine ws_store 1 hS rfl rfl rfl rfl rfl rfl (by rfl) (nl rfl) ?_;rintro z hS;have hS : SH _ [_, _, _] z _ := hS;have hK := hS.K;refine aq0 ?_;exact ⟨_, res_cell rfl rfl (hS.pt 1 rfl) rfl, hK, by rw [hL_hit (by omega) hOA hO (A := []) hlt Off.nil h65]; rfl⟩
  refine aq0 ?_;have hR := Keep.refl (s := z) (hK.ok);refine wc_draw (Old z []) (by kernel_rfl) rfl ?_;refine wol hR (v := .agg [vp, vg, va, vc, vf]) ((hS.pt 0 rfl).at (o := 0) (Nat.zero_le _)) (fun _ _ h => by cases h) ?_;refine aq2 ?_;refine wov (oJ (RowP.up h6 z.h)) ?_;refine wov (oF (Row.mk_pt (RowP.up h6 z.h) hd)) ?_;refine wol hR (v := .str d.name) (Pt.fld (Row.mk_pt (RowP.up h6 z.h) hd) _ (nl rfl)) (no_gs (fld_gs (RowP.egs h6 _))) ?_;refine woc hR (find_ref_ok hR.ok hx hv) ?_;rintro _ sA ⟨-, rfl⟩ hR;rw [hgn];refine aq5 ?_;have hS := hS.mov hR;generalize (⟨sA.ctr, z.h, sA.wr ++ z.wr⟩ : St) = z at hS ⊢;have hK := hS.K;refine aq1 ?_;refine wvz (v := .bool ((gN x d.name).1 != 0 || dN (lN y) d.name 0)) (op_bin rfl rfl (by rw [show dN (lN y) d.name 0 = false from rfl, Bool.or_false]; rfl)) ?_;refine aq2 ?_;refine wc_loop_at (fun jj m z => ∃ j : Nat, jj = i - j ∧ j ≤ i ∧ m = [(1, .int .i64 (k : Nat)), (2, .ptr p0 0 0), (4, .ptr p1 0 0), (5, .ptr p2 0 0), (6, v6), (7, .int .i64 (i : Nat)), (10, .bool ((gN x d.name).1 != 0 || dN (lN y) d.name j)), (11, .int .i64 (j : Nat))] ∧ SH s [ptC (.ptr p0 0 0) [vp, vg, va, vc, vf], ptC (.ptr p1 0 0) [.int .i64 0, .int .i64 0, .int .i64 0], ptC (.ptr p2 0 0) [.str y.name, .int .u64 y.level, yp, yr, yv, yb]] z) i
   [(1, .int .i64 (k : Nat)), (2, .ptr p0 0 0), (4, .ptr p1 0 0), (5, .ptr p2 0 0), (6, v6), (7, .int .i64 (i : Nat)), (10, .bool ((gN x d.name).1 != 0 || dN (lN y) d.name 0)), (11, .int .i64 ((0 : Nat) : Int))] (scn rfl (scn rfl (scn rfl (scn rfl (scn rfl (scn rfl (scn rfl (scn rfl (Sub.nil _))))))))) ⟨0, by simp, by simp, rfl, hS⟩ ?_
  clear hS hK;rintro jj m z ⟨j, rfl, hj, rfl, hS⟩;have hK := hS.K;refine aq3 ?_;refine wcd (fun h82 => ?_) (fun h82 => ?_)
  ·refine aq0 ?_;obtain ⟨d2, hd2⟩ : ∃ d, (locsL y)[j]? = some d := ⟨_, gee (by omega)⟩;have hq2 := lN_at hd2;refine wc_draw (fun _ => True) (by kernel_rfl) rfl ?_;refine aq2 ?_;refine wd_split (i := 86) rfl (fun h86 => ?_) (fun h86 => ?_)
   ·refine aq12 ?_;refine aq2 ?_;refine wad ?_;refine aq1 ?_
    first
    | exact rn ⟨j + 1, rfl, by omega, by rw [dN_succ, ← Bool.or_assoc, h86, Bool.true_or], hS⟩
    | exact rn ⟨j + 1, rfl, by omega, by rw [dN_succ, ← Bool.or_assoc, h86, Bool.false_or, hq2], hS⟩
   refine aq2 ?_;refine wdv (oJ (RowP.up h6 _)) ?_;refine wdv (oF (Row.mk_pt (RowP.up h6 _) hd2)) ?_;refine wdv (v := .str d2.name) (oM (Pt.fld (Row.mk_pt (RowP.up h6 _) hd2) _ (nl rfl))) ?_;refine aq2 ?_;refine wdv (oJ (RowP.up h6 _)) ?_;refine wdv (oF (Row.mk_pt (RowP.up h6 _) hd)) ?_;refine wdv (v := .str d.name) (oM (Pt.fld (Row.mk_pt (RowP.up h6 _) hd) _ (nl rfl))) ?_;refine aq4 ?_;refine wad ?_;refine aq1 ?_
   first
   | exact rn ⟨j + 1, rfl, by omega, by rw [dN_succ, ← Bool.or_assoc, h86, Bool.true_or], hS⟩
   | exact rn ⟨j + 1, rfl, by omega, by rw [dN_succ, ← Bool.or_assoc, h86, Bool.false_or, hq2], hS⟩
  obtain rfl : i = j := by omega
  refine aq1 ?_;refine wc_condT rfl (fun h99 => ?_) (fun h99 => ?_)
  ·refine aq1 ?_;refine wkz (at_ok hS.ok) ?_;rintro _ z ⟨hk, rfl⟩;have hS := hS.mov hk;refine ws_store 1 hS rfl rfl rfl rfl rfl rfl (by rfl) (nl rfl) ?_;rintro z hS;have hS : SH _ [_, _, _] z _ := hS;have hK := hS.K;refine aq0 ?_;exact ⟨_, res_cell rfl rfl (hS.pt 1 rfl) rfl, hK, by rw [hL_hit (by omega) hOA hO (A := [_]) hlt (Off.cons h65 Off.nil) h99]; rfl⟩
  refine aq0 ?_;have hR := Keep.refl (s := z) (hK.ok);refine wc_draw (Old z []) (by kernel_rfl) rfl ?_;refine wol hR (v := .agg [vp, vg, va, vc, vf]) ((hS.pt 0 rfl).at (o := 0) (Nat.zero_le _)) (fun _ _ h => by cases h) ?_;refine aq2 ?_;refine wov (oJ (RowP.up h6 z.h)) ?_;refine wov (oF (Row.mk_pt (RowP.up h6 z.h) hd)) ?_;refine wol hR (v := .int .u64 d.label) (Pt.fld (Row.mk_pt (RowP.up h6 z.h) hd) _ (nl rfl)) (no_gs (fld_gs (RowP.egs h6 _))) ?_;refine woc hR (foreign_ref_ok hR.ok hx hv hdl) ?_;rintro _ sA ⟨-, rfl⟩ hR;refine aq0 ?_;have hS := hS.mov hR;generalize (⟨sA.ctr, z.h, sA.wr ++ z.wr⟩ : St) = z at hS ⊢;have hK := hS.K;refine aq0 ?_;refine wc_condT rfl (fun h108 => ?_) (fun h108 => ?_)
  ·refine aq1 ?_;refine wkz (at_ok hS.ok) ?_;rintro _ z ⟨hk, rfl⟩;have hS := hS.mov hk;refine ws_store 1 hS rfl rfl rfl rfl rfl rfl (by rfl) (nl rfl) ?_;rintro z hS;have hS : SH _ [_, _, _] z _ := hS;have hK := hS.K;refine aq0 ?_;exact ⟨_, res_cell rfl rfl (hS.pt 1 rfl) rfl, hK, by rw [hL_hit (by omega) hOA hO (A := [_, _]) hlt (Off.cons h65 (Off.cons h99 Off.nil)) h108]; rfl⟩
  refine aq1 ?_;refine wad ?_;refine aq1 ?_;exact rn ⟨i + 1, rfl, by omega, rfl, hS, flat_off hO (by rw [hlt]; exact Off.cons h65 (Off.cons h99 (Off.cons h108 Off.nil)))⟩
 obtain rfl : i = (locsL y).length := by omega
 refine aq1 ?_;refine wc_loop_at (fun jj m z => ∃ i : Nat, jj = y.results.length - i ∧ i ≤ y.results.length ∧ m = [(1, .int .i64 (k : Nat)), (2, .ptr p0 0 0), (4, .ptr p1 0 0), (5, .ptr p2 0 0), (12, .int .i64 (i : Nat))] ∧ SH s [ptC (.ptr p0 0 0) [vp, vg, va, vc, vf], ptC (.ptr p1 0 0) [.int .i64 0, .int .i64 0, .int .i64 0], ptC (.ptr p2 0 0) [.str y.name, .int .u64 y.level, yp, yr, yv, yb]] z ∧ Off ((List.range i).flatMap (resT x k y))) y.results.length
  [(1, .int .i64 (k : Nat)), (2, .ptr p0 0 0), (4, .ptr p1 0 0), (5, .ptr p2 0 0), (12, .int .i64 ((0 : Nat) : Int))] (scn rfl (scn rfl (scn rfl (scn rfl (scn rfl (Sub.nil _)))))) ⟨0, by simp, by simp, rfl, hS, Off.nil⟩ ?_
 clear hS hK;rintro jj m z ⟨i, rfl, hi, rfl, hS, hO2⟩;have hK := hS.K;refine aq2 ?_;refine wvz (v := yr) (oL 2 hS) ?_;refine wvz (op_len rfl rfl rfl rfl rfl (RowP.slen hyr |>.trans (by rw [lmm]))) ?_;refine aq1 ?_;refine wcd (fun h115 => ?_) (fun h115 => ?_)
 ·refine aq0 ?_;obtain ⟨l, hl⟩ : ∃ l, y.results[i]? = some l := ⟨_, gee (by omega)⟩;have hR := Keep.refl (s := z) (hK.ok);refine wc_draw (Old z []) (by kernel_rfl) rfl ?_;refine wol hR (v := .agg [vp, vg, va, vc, vf]) ((hS.pt 0 rfl).at (o := 0) (Nat.zero_le _)) (fun _ _ h => by cases h) ?_;refine aq1 ?_;refine wo_load hR (v := yr) rfl rfl ((hS.pt 2 rfl).at (nl rfl)) rfl (fun _ _ h => by cases h) rfl rfl ?_;refine aq1 ?_;refine wov (oJ (RowP.up hyr z.h)) ?_;refine wol hR (v := .int .u64 l) (Row.mk_pt (RowP.up hyr z.h) hl) (no_gs (RowP.egs hyr _)) ?_;refine woc hR (foreign_ref_ok hR.ok hx hv (hg4 l (mog hl))) ?_;rintro _ sA ⟨-, rfl⟩ hR;refine aq0 ?_;have hS := hS.mov hR;generalize (⟨sA.ctr, z.h, sA.wr ++ z.wr⟩ : St) = z at hS ⊢;have hK := hS.K;refine aq0 ?_;refine wc_condT rfl (fun h124 => ?_) (fun h124 => ?_)
  ·refine aq1 ?_;refine wkz (at_ok hS.ok) ?_;rintro _ z ⟨hk, rfl⟩;have hS := hS.mov hk;refine ws_store 1 hS rfl rfl rfl rfl rfl rfl (by rfl) (nl rfl) ?_;rintro z hS;have hS : SH _ [_, _, _] z _ := hS;have hK := hS.K;refine aq0 ?_;exact ⟨_, res_cell rfl rfl (hS.pt 1 rfl) rfl, hK, by rw [hR_hit (by omega) hOA hO hO2 (A := []) (resT_at hl) Off.nil h124]; rfl⟩
  refine aq1 ?_;refine wad ?_;refine aq1 ?_;exact rn ⟨i + 1, rfl, by omega, rfl, hS, flat_off hO2 (by rw [resT_at hl]; exact Off.cons h124 Off.nil)⟩
 obtain rfl : i = y.results.length := by omega
 refine aq1 ?_;refine wvz (v := yb) (oL 2 hS) ?_;refine wvz (oN hsb) ?_;refine aq2 ?_;refine wvz (v := yb) (oL 2 hS) ?_;refine w_call rfl rfl (op_call rfl rfl rfl rfl) (nests_ok hS.ok (by rw [kinds, lmm]; exact hy4) hkr) ?_;rintro _ z ⟨hk, rfl⟩;have hS := hS.mov hk;have hK := hS.K;refine aq2 ?_;refine w_split (i := 134) rfl (fun h134 => ?_) (fun h134 => ?_)
 ·refine aq3 ?_;refine wc_cond_t rfl ?_;refine aq1 ?_;refine wkz (at_ok hS.ok) ?_;rintro _ z ⟨hk, rfl⟩;have hS := hS.mov hk;refine ws_store 1 hS rfl rfl rfl rfl rfl rfl (by rfl) (nl rfl) ?_;rintro z hS;have hS : SH _ [_, _, _] z _ := hS;have hK := hS.K;refine aq0 ?_;exact ⟨_, res_cell rfl rfl (hS.pt 1 rfl) rfl, hK, by rw [hZ_hit hOA hO hO2 (A := []) headZ_eq Off.nil h134]; rfl⟩
 refine aq3 ?_;refine wcb (fun h137 => ?_) (fun h137 => ?_)
 ·refine aq1 ?_;refine wkz (at_ok hS.ok) ?_;rintro _ z ⟨hk, rfl⟩;have hS := hS.mov hk;refine ws_store 1 hS rfl rfl rfl rfl rfl rfl (by rfl) (nl rfl) ?_;rintro z hS;have hS : SH _ [_, _, _] z _ := hS;have hK := hS.K;refine aq0 ?_;have hl0 : lastN y = -1 := by unfold lastN; rw [show y.body.length = 0 by omega]; rfl
  exact ⟨_, res_cell rfl rfl (hS.pt 1 rfl) rfl, hK, by rw [hZ_hit hOA hO hO2 (A := [_]) headZ_eq (Off.cons h134 Off.nil) (by rw [hl0]; rfl)]; rfl⟩
 refine aq1 ?_;refine wc_loop_at (fun jj m z => ∃ i : Nat, jj = y.body.length - i ∧ i ≤ y.body.length ∧ m = [(1, .int .i64 (k : Nat)), (2, .ptr p0 0 0), (4, .ptr p1 0 0), (5, .ptr p2 0 0), (13, .int .i64 (y.body.length : Nat)), (14, .int .i64 (i : Nat))] ∧ SH s [ptC (.ptr p0 0 0) [vp, vg, va, vc, vf], ptC (.ptr p1 0 0) [.int .i64 0, .int .i64 0, .int .i64 0], ptC (.ptr p2 0 0) [.str y.name, .int .u64 y.level, yp, yr, yv, yb]] z ∧ ∀ j, j < i → ((kinds y).getD j 0 == 9) = ((j : Int) == (y.body.length : Int) - 1)) y.body.length
  [(1, .int .i64 (k : Nat)), (2, .ptr p0 0 0), (4, .ptr p1 0 0), (5, .ptr p2 0 0), (13, .int .i64 (y.body.length : Nat)), (14, .int .i64 ((0 : Nat) : Int))] (scn rfl (scn rfl (scn rfl (scn rfl (scn rfl (scn rfl (Sub.nil _))))))) ⟨0, by simp, by simp, rfl, hS, fun j h => by omega⟩ ?_
 clear hS hK;rintro jj m z ⟨i, rfl, hi, rfl, hS, hQ⟩;have hK := hS.K;refine aq3 ?_;refine wcd (fun h142 => ?_) (fun h142 => ?_)
 ·refine aq0 ?_;obtain ⟨st, hst⟩ : ∃ st, y.body[i]? = some st := ⟨_, gee (by omega)⟩;obtain ⟨cst, hcst⟩ : ∃ c, csb[i]? = some c := ⟨_, gee (by omega)⟩;obtain ⟨vt, ve, rfl, -⟩ := hbE i st cst hst hcst;have hks : (kinds y).getD i 0 = st.kind := by rw [kinds, gdd, gmm, hst]; rfl
  refine aq1 ?_;refine wvz (v := yb) (oL 2 hS) ?_;refine aq1 ?_;refine wvz (oI (RowP.up hbr _)) ?_;refine wvz (oF (Row.pt (RowP.up hbr z.h) hcst)) ?_;refine wvz (v := .int .i64 st.kind) (oM (Pt.fld (Row.pt (RowP.up hbr z.h) hcst) _ (nl rfl))) ?_;refine aq3 ?_;refine wvz (op_sub rfl rfl (by unfold In64; omega)) ?_;refine aq2 ?_;refine wc_condT rfl (fun h156 => ?_) (fun h156 => ?_)
  ·simp only [bff, ne_eq, Bool.not_eq_true'] at h156;refine aq1 ?_;refine wkz (at_ok hS.ok) ?_;rintro _ z ⟨hk, rfl⟩;have hS := hS.mov hk;refine ws_store 1 hS rfl rfl rfl rfl rfl rfl (by rfl) (nl rfl) ?_;rintro z hS;have hS : SH _ [_, _, _] z _ := hS;have hK := hS.K;refine aq0 ?_;exact ⟨_, res_cell rfl rfl (hS.pt 1 rfl) rfl, hK, by rw [hZ_hit hOA hO hO2 (A := [_]) headZ_eq (Off.cons h134 Off.nil) (last_bad (j := i) (by omega) (by rw [hks]; exact h156))]; rfl⟩
  simp only [beq_iff_eq, Bool.not_eq_false'] at h156;refine aq1 ?_;refine wad ?_;refine aq1 ?_;exact rn ⟨i + 1, rfl, by omega, rfl, hS, fun j hj => (lsl.1 hj).elim (hQ j) fun e => by rw [e, hks]; exact h156⟩
 obtain rfl : i = y.body.length := by omega
 refine aq0 ?_;refine wvz (v := .agg (fltC ⟨0, 0, 0⟩)) (op_pure rfl) ?_;refine ws_store 1 hS rfl rfl rfl rfl rfl rfl (by rfl) (nl rfl) ?_;rintro z hS;have hS : SH _ [_, _, _] z _ := hS;have hK := hS.K;refine aq0 ?_;have hoz : Off (headZ k y) := by rw [headZ_eq]; exact Off.cons h134 (Off.cons (last_ok (by omega) hQ) Off.nil)
 exact ⟨_, res_cell rfl rfl (hS.pt 1 rfl) rfl, hK, by rw [headT, firstF_off' (((hOA.app hO).app hO2).app hoz)]; rfl⟩
end Go.Ab
namespace Go.Ab
open Go.Proofs
def fnz : List Int → Int
 | [] => 0
 | a :: r => if a ≠ 0 then a else fnz r
theorem fnz_app (us : List Int) (c : Int) : fnz (us ++ [c]) = if fnz us ≠ 0 then fnz us else c := by
 induction us with
 | nil =>
  show (if c ≠ 0 then c else 0) = if (0 : Int) ≠ 0 then 0 else c
  rw [if_neg (show ¬ (0 : Int) ≠ 0 by simp)];split <;> omega
 | cons a r ih =>
  show (if a ≠ 0 then a else fnz (r ++ [c])) = if (if a ≠ 0 then a else fnz r) ≠ 0 then (if a ≠ 0 then a else fnz r) else c
  by_cases h : a ≠ 0
  ·rw [if_pos h, if_pos h, if_pos h]
  ·rw [if_neg h, if_neg h]; exact ih
theorem fnz_hit : ∀ {us : List Int} {i : Nat} {u : Int}, (∀ j, j < i → us.getD j 0 = 0) → us[i]? = some u → u ≠ 0 → fnz us = u
 | [], i, u, _, h, _ => by simp at h
 | a :: r, 0, u, _, h, hu => by
  simp only [List.getElem?_cons_zero, sjj] at h;subst h;rw [fnz, if_pos hu]
 | a :: r, i + 1, u, h0, h, hu => by
  have ha : a = 0 := h0 0 (Nat.succ_pos i);rw [fnz, if_neg (by omega)];exact fnz_hit (i := i) (fun j hj => h0 (j + 1) (Nat.succ_lt_succ hj)) (by simpa using h) hu
theorem fnz_zero : ∀ {us : List Int}, (∀ j, j < us.length → us.getD j 0 = 0) → fnz us = 0
 | [], _ => rfl
 | a :: r, h => by
  have ha : a = 0 := h 0 (by simp);rw [fnz, if_neg (by omega)];exact fnz_zero fun j hj => h (j + 1) (by simpa using hj)
def UO (us : List Int) (L : List (Bool × Flt)) : Prop := (firstF L).err = fnz us ∧ GoodF L
theorem UO.nil : UO [] [] := ⟨rfl, GoodF.nil⟩
theorem UO.add {us : List Int} {L B : List (Bool × Flt)} (h : UO us L) (hB : GoodF B) {c : Int} (hc : c = (firstF B).err) : UO (us ++ [c]) (L ++ B) := by
 refine ⟨?_, h.2.app hB⟩;rw [fnz_app, ← h.1];by_cases e : (firstF L).err = 0
 ·rw [firstF_off (firstF_zero h.2 e), if_neg (by simpa using e), hc]
 ·rw [firstF_more h.2 e, if_pos e]
theorem use_code2 (s : SrcL) (f a : Int) (nm : ByteArray) (b c : Int) : useR s f nm b c = (firstF (useT s f a nm [b, c])).err := by
 have hin : inZ [b, c] (fN s f nm).1 = true ↔ (fN s f nm).1 = b ∨ (fN s f nm).1 = c := by
  rw [inZ_iff]; simp only [List.mem_cons, nmn, or_false]
 by_cases h : (fN s f nm).1 = 0
 ·have e1 : (!((fN s f nm).1 != 0)) = true := by rw [h]; rfl
  rw [useR, if_pos h, useT, e1]; rfl
 ·have e1 : (!((fN s f nm).1 != 0)) = false := by rw [Bool.not_eq_false', bne_iff_ne]; exact h
  cases e : inZ [b, c] (fN s f nm).1 with
  | false =>
   have hk : ¬ ((fN s f nm).1 = b ∨ (fN s f nm).1 = c) := fun k => by rw [hin.2 k] at e; cases e
   rw [useR_a h (fun k => hk (.inl k)) (fun k => hk (.inr k)), useT, e1, e]; rfl
  | true =>
   rw [useT, e1, e];rcases hin.1 e with k | k
   ·rw [useR_b h k]; rfl
   ·rw [useR_c h k]; rfl
theorem use_code1 (s : SrcL) (f a : Int) (nm : ByteArray) (b : Int) : useR s f nm b b = (firstF (useT s f a nm [b])).err := by
 rw [use_code2 s f a nm b b];unfold useT;have : inZ [b, b] (fN s f nm).1 = inZ [b] (fN s f nm).1 := by
  rw [Bool.eq_iff_iff, inZ_iff, inZ_iff]; simp
 rw [this]
def usesT (s : SrcL) (k i : Nat) (x : StmtL) : List (Bool × Flt) := (List.range x.targets.length).flatMap (tgtT s k i x) ++ nameT s k i x ++ (List.range x.exprs.length).flatMap (exprT s k i x)
theorem stmtT_eq (s : SrcL) (k : Nat) (y : FunL) (i : Nat) (x : StmtL) : stmtT s k y i x = stmtA k i x ++ (usesT s k i x ++ (retT k y i x ++ callT s k i x)) := by
 unfold stmtT stmtB usesT;simp only [aas]
theorem longN_t {x : StmtL} {j : Nat} {ts : List TermL} (h : x.exprs[j]? = some ts) (hl : (ts.length : Int) > 48) : longN x = true := by
 unfold longN idxQ;rw [dtt];cases hf : (List.range x.exprs.length).find? fun j => decide (((x.exprs.getD j []).length : Int) > 48) with
 | some k => simp only; omega
 | none =>
  rw [List.find?_eq_none] at hf;have := hf j (by simpa using (ges.1 h).1);rw [gdd, h] at this;simp only [Option.getD_some, dtt] at this;omega
theorem longN_f {x : StmtL} (h : ∀ (j : Nat) (ts : List TermL), x.exprs[j]? = some ts → ¬ (ts.length : Int) > 48) : longN x = false := by
 unfold longN;rw [idxQ_none (fun j hj => ?_)]; · rfl
 rw [gdd, gee hj];exact decide_eq_false (h j _ (gee hj))
section
variable {s : SrcL} {k i : Nat} {y : FunL} {x : StmtL} {A B : List (Bool × Flt)} {b : Bool} {f : Flt} {us : List Int}
theorem sA_hit (hg : stmtA k i x = A ++ (b, f) :: B) (hA : Off A) (hb : b = true) : (firstF (stmtT s k y i x)).err = f.err := by
 subst hb;rw [stmtT_eq, hg, aas, List.cons_append, firstF_on hA]
theorem sU_hit (h0 : Off (stmtA k i x)) (hU : UO us (usesT s k i x)) {u : Int} (h : fnz us = u) (hu : u ≠ 0) : (firstF (stmtT s k y i x)).err = u := by
 rw [stmtT_eq, firstF_off h0, firstF_more hU.2 (by rw [hU.1, h]; exact hu), hU.1, h]
theorem sR_hit (h0 : Off (stmtA k i x)) (h1 : Off (usesT s k i x)) (hk : x.kind = 9) (hb : ((x.exprs.length : Int) != (y.results.length : Int)) = true) : (firstF (stmtT s k y i x)).err = 73 := by
 rw [stmtT_eq, firstF_off h0, firstF_off h1, retT, if_pos hk, hb]; rfl
theorem sC_at (h0 : Off (stmtA k i x)) (h1 : Off (usesT s k i x)) (h2 : Off (retT k y i x)) : firstF (stmtT s k y i x) = firstF (callT s k i x) := by
 rw [stmtT_eq, firstF_off h0, firstF_off h1, firstF_off h2]
theorem ret_off (h : x.kind = 9 → ((x.exprs.length : Int) != (y.results.length : Int)) = false) : Off (retT k y i x) := by
 unfold retT;split
 ·rename_i hk; exact Off.cons (h hk) Off.nil
 ·exact Off.nil
theorem uses_off (hU : UO us (usesT s k i x)) (h : fnz us = 0) : Off (usesT s k i x) := firstF_zero hU.2 (by rw [hU.1, h])
theorem call_kind (h1 : Off (usesT s k i x)) (hk : x.kind = 4) : (fN s k x.name).1 = 5 := by
 have h2 : Off (useT s k i x.name [5]) := fun p hp => h1 p (by
   unfold usesT;refine List.mem_append_left _ (List.mem_append_right _ ?_);rw [nameT, if_neg (by omega), if_neg (by omega), if_pos hk]; exact hp)
 have := h2 _ (List.mem_cons_of_mem _ (mcs ..));simp only [Bool.not_eq_false'] at this;have := inZ_iff.1 this;simpa using this
end
section
variable {s : SrcL} {k i : Nat} {y : FunL} {x : StmtL} {b : Bool}
theorem sC_0 (h0 : Off (stmtA k i x)) (h1 : Off (usesT s k i x)) (h2 : Off (retT k y i x)) (h : callT s k i x = []) : (firstF (stmtT s k y i x)).err = 0 := by rw [sC_at h0 h1 h2, h]; rfl
theorem call_off (h : ¬ x.kind = 4) : callT s k i x = [] := if_neg fun k => h k.1
theorem sC_1 (h0 : Off (stmtA k i x)) (h1 : Off (usesT s k i x)) (h2 : Off (retT k y i x)) (h : callT s k i x = [(b, ⟨73, k, i⟩)]) (hb : b = true) : (firstF (stmtT s k y i x)).err = 73 := by rw [sC_at h0 h1 h2, h, hb]; rfl
theorem sC_2 (h0 : Off (stmtA k i x)) (h1 : Off (usesT s k i x)) (h2 : Off (retT k y i x)) (h : callT s k i x = [(b, ⟨73, k, i⟩)]) (hb : b = false) : (firstF (stmtT s k y i x)).err = 0 := by rw [sC_at h0 h1 h2, h, hb]; rfl
theorem or3a {a b c : Bool} (h : a = true) : (a || (b && c)) = true := by rw [h]; rfl
theorem or3b {a b c : Bool} (h : b = true) (k : c = true) : (a || (b && c)) = true := by rw [h, k]; cases a <;> rfl
theorem or3c {a b c : Bool} (h : a = false) (_k : b = true) (l : c = false) : (a || (b && c)) = false := by rw [h, l]; cases b <;> rfl
theorem or3d {a b c : Bool} (h : a = false) (k : b = false) : (a || (b && c)) = false := by rw [h, k]; rfl
theorem termT_at {ts : List TermL} {n : Nat} {t : TermL} (h : ts[n]? = some t) : termT s k i ts n = if t.kind = 2 then useT s k i t.name [1, 2] else if t.kind = 3 then useT s k i t.name [3] else [] := by unfold termT; rw [h]
end
end Go.Ab
namespace Go.Ab
open Go.Proofs
def AtF (k i : Nat) (l : List (Bool × Flt)) : Prop := ∀ p ∈ l, p.2.f = k ∧ p.2.at_ = i
theorem AtF.app {k i : Nat} {l r : List (Bool × Flt)} (h : AtF k i l) (g : AtF k i r) : AtF k i (l ++ r) := fun p hp => (List.mem_append.1 hp).elim (h p) (g p)
theorem AtF.nil {k i : Nat} : AtF k i [] := fun _ h => by cases h
theorem AtF.flat {α : Type} {k i : Nat} {l : List α} {g : α → List (Bool × Flt)} (h : ∀ x ∈ l, AtF k i (g x)) : AtF k i (l.flatMap g) := fun p hp => by
 obtain ⟨x, hx, hp⟩ := List.mem_flatMap.1 hp;exact h x hx p hp
theorem AtF.first {k i : Nat} {l : List (Bool × Flt)} (h : AtF k i l) (hn : (firstF l).err ≠ 0) : firstF l = ⟨(firstF l).err, k, i⟩ := by
 rcases firstF_cases l with e | ⟨a, x, r, rfl, e⟩
 ·rw [firstF_off' e] at hn; exact (hn rfl).elim
 ·rw [firstF_on e];obtain ⟨h1, h2⟩ := h (true, x) (by simp);cases x; simp only at h1 h2; rw [h1, h2]
theorem at_use (s : SrcL) (k i : Nat) (nm : ByteArray) (ks : List Int) : AtF k i (useT s k i nm ks) := by
 intro p hp;unfold useT at hp;simp only [List.mem_cons, nmn, or_false] at hp;rcases hp with rfl | rfl <;> exact ⟨rfl, rfl⟩
theorem at_stmt (s : SrcL) (k : Nat) (y : FunL) (i : Nat) (x : StmtL) : AtF k i (stmtT s k y i x) := by
 unfold stmtT stmtB;refine AtF.app (AtF.app (AtF.app (AtF.app (AtF.app ?_ (AtF.flat fun j _ => ?_)) ?_) (AtF.flat fun j _ => ?_)) ?_) ?_
 ·intro p hp; unfold stmtA at hp; simp only [List.mem_cons, nmn, or_false] at hp; rcases hp with rfl | rfl <;> exact ⟨rfl, rfl⟩
 ·unfold tgtT;split
  ·exact AtF.nil
  ·exact at_use _ _ _ _ _
 ·unfold nameT;split
  ·exact at_use _ _ _ _ _
  ·split
   ·exact at_use _ _ _ _ _
   ·split
    ·exact at_use _ _ _ _ _
    ·exact AtF.nil
 ·unfold exprT;split
  ·exact AtF.nil
  ·refine AtF.flat fun n _ => ?_;unfold termT;split
   ·exact AtF.nil
   ·split
    ·exact at_use _ _ _ _ _
    ·split
     ·exact at_use _ _ _ _ _
     ·exact AtF.nil
 ·unfold retT;split
  ·intro p hp; simp only [List.mem_cons, nmn, or_false] at hp; subst hp; exact ⟨rfl, rfl⟩
  ·exact AtF.nil
 ·unfold callT;split
  ·split
   ·exact AtF.nil
   ·intro p hp; simp only [List.mem_cons, nmn, or_false] at hp; subst hp; exact ⟨rfl, rfl⟩
  ·exact AtF.nil
theorem checkL_eq (s : SrcL) : ∀ n, (List.range (n + 1)).flatMap (stepT s) = declL s ++ (List.range n).flatMap (funT s)
 | 0 => by simp [stepT]
 | n + 1 => by rw [range_flat, checkL_eq s n, range_flat, aas]; rfl
theorem good_D (s : SrcL) (i : Nat) : GoodF (declL s ++ (List.range i).flatMap (funT s)) := (good_declL s).app (GoodF.flat fun k _ => good_fun' s k)
theorem good_E (s : SrcL) (i : Nat) (y : FunL) (j : Nat) : GoodF (declL s ++ (List.range i).flatMap (funT s) ++ (headT s i y ++ (List.range j).flatMap (stmtI s i y))) := (good_D s i).app ((good_head _ _ _).app (GoodF.flat fun k _ => by
  unfold stmtI;split
  · exact GoodF.nil
  · exact good_stmt' _ _ _ _ _))
end Go.Ab
namespace Go.Ab
open Go.Proofs
def orI (a b : Int) : Int := IntKind.u64.wrap ((BitVec.ofInt 64 a ||| BitVec.ofInt 64 b).toNat : Int)
def joinL (ls : List Int) : Int := ls.foldl orI 0
def wI (a b : Int) : Bool := IntKind.u64.wrap ((BitVec.ofInt 64 a &&& ~~~ BitVec.ofInt 64 b).toNat : Int) == 0
theorem join_ok {s : St} {v : AV} {ls : List Int} (hok : s.Ok) (hl : ls.length ≤ 2097152) (hv : RowP 1 v (ls.map lC)) :
  CallS Try.prog Tt Kt 61 [v] s fun r s' => Keep [] s s' ∧ r = .int .u64 (joinL ls) := by
 refine cof 16 Try.func61 ?_;refine aq0 ?_;have hK := Keep.refl hok;refine aq2 ?_;refine wvz (op_len rfl rfl rfl rfl rfl (RowP.slen hv |>.trans (by rw [lmm]))) ?_;refine aq1 ?_;refine wc_loop_at (fun jj m z => ∃ i : Nat, jj = ls.length - i ∧ i ≤ ls.length ∧ m = [(2, .int .u64 (joinL (ls.take i))), (5, v), (6, .int .i64 (ls.length : Nat)), (7, .int .i64 (i : Nat))] ∧ Keep [] s z) ls.length
  [(2, .int .u64 (joinL (ls.take 0))), (5, v), (6, .int .i64 (ls.length : Nat)), (7, .int .i64 ((0 : Nat) : Int))] (scn rfl (scn rfl (scn rfl (scn rfl (Sub.nil _))))) ⟨0, by simp, by simp, rfl, hK⟩ ?_
 clear hK;rintro jj m z ⟨i, rfl, hi, rfl, hK⟩;refine aq1 ?_;refine wc_condT rfl (fun h8 => ?_) (fun h8 => ?_)
 ·simp only [dtt, dff, beq_iff_eq, bff, ne_eq, bne_iff_ne, bne_eq_false_iff_eq, gt_iff_lt, ge_iff_le, Bool.not_eq_true', Bool.not_eq_false', Bool.and_eq_true] at h8;refine aq0 ?_;obtain ⟨l, hl'⟩ : ∃ l, ls[i]? = some l := ⟨_, gee (by omega)⟩;refine aq0 ?_;refine wvz (oJ (RowP.up hv _)) ?_;refine wvz (v := .int .u64 l) (oM (Row.mk_pt (RowP.up hv z.h) hl')) ?_;refine aq3 ?_;refine wvz (v := .int .u64 (orI (joinL (ls.take i)) l)) (op_bin rfl rfl rfl) ?_;refine aq1 ?_;refine wad ?_;refine aq1 ?_;exact rn ⟨i + 1, rfl, by omega, by rw [show joinL (ls.take (i + 1)) = orI (joinL (ls.take i)) l by rw [← take_snoc hl', joinL, List.foldl_append]; rfl], hK⟩
 simp only [dtt, dff, beq_iff_eq, bff, ne_eq, bne_iff_ne, bne_eq_false_iff_eq, gt_iff_lt, ge_iff_le, Bool.not_eq_true', Bool.not_eq_false', Bool.and_eq_true] at h8;obtain rfl : i = ls.length := by omega
 refine aq2 ?_;exact ⟨_, rfl, hK, by rw [List.take_length]; rfl⟩
theorem within_ok {s : St} {a b : Int} (hok : s.Ok) :
  CallS Try.prog Tt Kt 63 [.int .u64 a, .int .u64 b] s fun r s' => Keep [] s s' ∧ r = .bool (wI a b) := by
 refine cof 9 Try.func63 ?_;refine aq0 ?_;have hS := SH.start hok;have hK := hS.K;refine aq6 ?_;exact ⟨_, rfl, hK, rfl⟩
end Go.Ab
namespace Go.Ab
open Go.Proofs
theorem wI_bits (a b : Int) : wI a b = true ↔ ∀ k, k < 64 → (BitVec.ofInt 64 a).getLsbD k = true → (BitVec.ofInt 64 b).getLsbD k = true := by
 unfold wI;rw [wrapNat (BitVec.isLt _), beq_iff_eq];have : (((BitVec.ofInt 64 a &&& ~~~ BitVec.ofInt 64 b).toNat : Int) = 0) ↔ (BitVec.ofInt 64 a &&& ~~~ BitVec.ofInt 64 b) = 0#64 := by
  constructor
  ·intro h
   apply BitVec.eq_of_toNat_eq
   simpa using h
  ·intro h; rw [h]; rfl
 rw [this]
 constructor
 ·intro h k hk ha;have e := congrArg (fun x : BitVec 64 => x.getLsbD k) h;simp only [BitVec.getLsbD_and, BitVec.getLsbD_not, BitVec.getLsbD_zero, ha, hk, decide_true, Bool.true_and] at e;simpa using e
 ·intro h
  apply BitVec.eq_of_getLsbD_eq
  intro k hk;simp only [BitVec.getLsbD_and, BitVec.getLsbD_not, BitVec.getLsbD_zero, hk, decide_true, Bool.true_and];cases e : (BitVec.ofInt 64 a).getLsbD k with
  | false => rfl
  | true => rw [h k hk e]; rfl
end Go.Ab
namespace Go.Ab
open Go.Proofs
theorem orI_nat {a b : Nat} (ha : a < 2 ^ 64) (hb : b < 2 ^ 64) : orI (a : Int) (b : Int) = ((a ||| b : Nat) : Int) := by
 unfold orI;rw [wrapNat (BitVec.isLt _)];have e1 : BitVec.ofInt 64 (a : Int) = BitVec.ofNat 64 a := rfl;have e2 : BitVec.ofInt 64 (b : Int) = BitVec.ofNat 64 b := rfl;rw [e1, e2, BitVec.toNat_or, BitVec.toNat_ofNat, BitVec.toNat_ofNat, Nat.mod_eq_of_lt ha, Nat.mod_eq_of_lt hb]
theorem wI_nat {a b : Nat} (ha : a < 2 ^ 64) (hb : b < 2 ^ 64) : wI (a : Int) (b : Int) = decide (a ||| b = b) := by
 rw [Bool.eq_iff_iff, wI_bits, decide_eq_true_iff];have e1 : BitVec.ofInt 64 (a : Int) = BitVec.ofNat 64 a := rfl;have e2 : BitVec.ofInt 64 (b : Int) = BitVec.ofNat 64 b := rfl;rw [e1, e2]
 constructor
 ·intro h;refine Nat.eq_of_testBit_eq fun k => ?_;rw [Nat.testBit_or];by_cases hk : k < 64
  ·have := h k hk;rw [BitVec.getLsbD_ofNat, BitVec.getLsbD_ofNat, decide_eq_true hk, Bool.true_and, Bool.true_and] at this;cases ea : a.testBit k with
   | false => rfl
   | true => rw [this ea]; rfl
  ·have h64 : 2 ^ 64 ≤ 2 ^ k := Nat.pow_le_pow_right (by omega) (by omega);rw [Nat.testBit_lt_two_pow (Nat.lt_of_lt_of_le ha h64)]; rfl
 ·intro h k hk ha';rw [BitVec.getLsbD_ofNat, decide_eq_true hk, Bool.true_and] at ha' ⊢;rw [← h, Nat.testBit_or, ha']; rfl
def wN (a b : Nat) : Bool := decide (a ||| b = b)
theorem wN_or (a b t : Nat) : wN (a ||| b) t = (wN a t && wN b t) := by
 unfold wN;rw [Bool.eq_iff_iff, Bool.and_eq_true, decide_eq_true_iff, decide_eq_true_iff, decide_eq_true_iff]
 constructor
 ·intro h
  constructor
  ·refine Nat.eq_of_testBit_eq fun k => ?_;have := congrArg (fun x => x.testBit k) h;simp only [Nat.testBit_or] at this ⊢;revert this;cases a.testBit k <;> cases b.testBit k <;> cases t.testBit k <;> decide
  ·refine Nat.eq_of_testBit_eq fun k => ?_;have := congrArg (fun x => x.testBit k) h;simp only [Nat.testBit_or] at this ⊢;revert this;cases a.testBit k <;> cases b.testBit k <;> cases t.testBit k <;> decide
 ·rintro ⟨h1, h2⟩;rw [Nat.or_assoc, h2, h1]
theorem or64 {a b : Nat} (ha : a < 2 ^ 64) (hb : b < 2 ^ 64) : a ||| b < 2 ^ 64 := Nat.or_lt_two_pow ha hb
def labN (s : SrcL) (f : Int) (p : Int × Int) : Nat :=
 if p.1 = 1 then (((locN s f).map DeclL.label).getD p.2.toNat 0).toNat
 else if p.1 = 2 then ((s.globals.map DeclL.label).getD p.2.toNat 0).toNat
 else if p.1 = 3 then ((s.arrays.map ArrD.label).getD p.2.toNat 0).toNat
 else if p.1 = 4 then ((s.channels.map DeclL.label).getD p.2.toNat 0).toNat
 else 0
theorem lab64 {l : List Int} (h : ∀ a ∈ l, U64 a) (i : Nat) : (l.getD i 0).toNat < 2 ^ 64 := by
 rw [gdd];cases e : l[i]? with
 | none => simp
 | some a =>
  have := h a (mog e);have h1 := this.1;have h2 := this.2;simp only [Option.getD_some];omega
theorem locN_fine {x : SrcL} (h : x.fine) (f : Int) : ∀ d ∈ locN x f, d.fine := by
 unfold locN;split
 ·split
  ·rename_i y hy;intro d hd;have hf := h.2.2.2.2 y (mog hy);rcases List.mem_append.1 hd with hd | hd
   ·exact hf.2.2.1 d hd
   ·exact hf.2.2.2.2 d hd
  ·simp
 ·simp
theorem labN_64 {x : SrcL} (h : x.fine) (f : Int) (p : Int × Int) : labN x f p < 2 ^ 64 := by
 have e : ∀ {α : Type} {g : α → Int} {l : List α}, (∀ a ∈ l, U64 (g a)) → ∀ a ∈ l.map g, U64 a := fun h a ha => by
  obtain ⟨b, hb, rfl⟩ := List.mem_map.1 ha;exact h b hb
 unfold labN;split
 ·exact lab64 (e fun d hd => (locN_fine h f d hd).2) _
 ·split
  ·exact lab64 (e fun d hd => (h.2.1 d hd).2) _
  ·split
   ·exact lab64 (e fun d hd => (h.2.2.1 d hd).2) _
   ·split
    ·exact lab64 (e fun d hd => (h.2.2.2.1 d hd).2) _
    ·omega
theorem fi_at {α : Type} {g : α → ByteArray} {l : List α} {nm : ByteArray} (h : 0 ≤ fiI (l.map g) nm) : ∃ (q : Nat) (d : α), fiI (l.map g) nm = q ∧ l[q]? = some d := by
 have h1 := (fiI_lt (l.map g) nm).2;rw [lmm] at h1;obtain ⟨q, hq⟩ := Int.eq_ofNat_of_zero_le h;exact ⟨q, l[q]'(by omega), hq, gee (by omega)⟩
theorem gN_1 {s : SrcL} {nm : ByteArray} : (gN s nm).1 ≠ 1 := by
 unfold gN;split
 ·simp
 ·split
  ·simp
  ·split
   ·simp
   ·split <;> simp
theorem fN_gl {x : SrcL} {f : Int} {nm : ByteArray} (h : (fN x f nm).1 ≠ 1) : fN x f nm = gN x nm := by
 unfold fN at h ⊢;split
 ·rename_i h0;rw [if_pos h0] at h;exact (h rfl).elim
 ·rfl
section
variable {x : SrcL} {f : Int} {nm : ByteArray} {p : Int × Int}
theorem fN_1 (e : fN x f nm = p) (h : p.1 = 1) : ∃ (q : Nat) (d : DeclL), p.2 = q ∧ (locN x f)[q]? = some d ∧ labN x f p = d.label.toNat := by
 subst e;by_cases h0 : 0 ≤ fiI ((locN x f).map DeclL.name) nm
 ·obtain ⟨q, d, h1, h2⟩ := fi_at h0;have e : (fN x f nm).2 = q := by rw [fN, if_pos h0]; exact h1
  refine ⟨q, d, e, h2, ?_⟩;rw [labN, if_pos h, e, gdd, Int.toNat_natCast, gmm, h2]; rfl
 ·rw [fN, if_neg h0] at h;exact (gN_1 h).elim
theorem fN_2 (e : fN x f nm = p) (h : p.1 = 2) : ∃ (q : Nat) (d : DeclL), p.2 = q ∧ x.globals[q]? = some d ∧ labN x f p = d.label.toNat := by
 subst e;have hg := fN_gl (x := x) (f := f) (nm := nm) (by rw [h]; decide);by_cases h0 : 0 ≤ fiI (x.globals.map DeclL.name) nm
 ·obtain ⟨q, d, h1, h2⟩ := fi_at h0;have e : (fN x f nm).2 = q := by rw [hg, gN, if_pos h0]; exact h1
  refine ⟨q, d, e, h2, ?_⟩;rw [labN, if_neg (by rw [h]; decide), if_pos h, e, gdd, Int.toNat_natCast, gmm, h2]; rfl
 ·rw [hg, gN, if_neg h0] at h;split at h
  ·cases h
  ·split at h
   ·cases h
   ·split at h <;> cases h
theorem fN_3 (e : fN x f nm = p) (h : p.1 = 3) : ∃ (q : Nat) (d : ArrD), p.2 = q ∧ x.arrays[q]? = some d ∧ labN x f p = d.label.toNat := by
 subst e;have hg := fN_gl (x := x) (f := f) (nm := nm) (by rw [h]; decide);by_cases h1 : 0 ≤ fiI (x.globals.map DeclL.name) nm
 ·rw [hg, gN, if_pos h1] at h; cases h
 by_cases h0 : 0 ≤ fiI (x.arrays.map ArrD.name) nm
 ·obtain ⟨q, d, k1, k2⟩ := fi_at h0;have e : (fN x f nm).2 = q := by rw [hg, gN, if_neg h1, if_pos h0]; exact k1
  refine ⟨q, d, e, k2, ?_⟩;rw [labN, if_neg (by rw [h]; decide), if_neg (by rw [h]; decide), if_pos h, e, gdd, Int.toNat_natCast, gmm, k2]; rfl
 ·rw [hg, gN, if_neg h1, if_neg h0] at h;split at h
  ·cases h
  ·split at h <;> cases h
theorem fN_4 (e : fN x f nm = p) (h : p.1 = 4) : ∃ (q : Nat) (d : DeclL), p.2 = q ∧ x.channels[q]? = some d ∧ labN x f p = d.label.toNat := by
 subst e;have hg := fN_gl (x := x) (f := f) (nm := nm) (by rw [h]; decide);by_cases h1 : 0 ≤ fiI (x.globals.map DeclL.name) nm
 ·rw [hg, gN, if_pos h1] at h; cases h
 by_cases h2 : 0 ≤ fiI (x.arrays.map ArrD.name) nm
 ·rw [hg, gN, if_neg h1, if_pos h2] at h; cases h
 by_cases h0 : 0 ≤ fiI (x.channels.map DeclL.name) nm
 ·obtain ⟨q, d, k1, k2⟩ := fi_at h0;have e : (fN x f nm).2 = q := by rw [hg, gN, if_neg h1, if_neg h2, if_pos h0]; exact k1
  refine ⟨q, d, e, k2, ?_⟩;rw [labN, if_neg (by rw [h]; decide), if_neg (by rw [h]; decide), if_neg (by rw [h]; decide), if_pos h, e, gdd, Int.toNat_natCast, gmm, k2]; rfl
 ·rw [hg, gN, if_neg h1, if_neg h2, if_neg h0] at h;split at h <;> cases h
theorem labN_0 (h1 : p.1 ≠ 1) (h2 : p.1 ≠ 2) (h3 : p.1 ≠ 3) (h4 : p.1 ≠ 4) : labN x f p = 0 := by
 rw [labN, if_neg h1, if_neg h2, if_neg h3, if_neg h4]
end
def badT (s : SrcL) (f : Int) (t : TermL) : Bool := decide ((t.kind = 2 ∧ (fN s f t.name).1 ≠ 1 ∧ (fN s f t.name).1 ≠ 2) ∨ (t.kind = 3 ∧ (fN s f t.name).1 ≠ 3))
def tmL (s : SrcL) (f : Int) (t : TermL) : Nat := if t.kind = 2 ∨ t.kind = 3 then labN s f (fN s f t.name) else 0
def exL (s : SrcL) (f : Int) (ts : List TermL) : Nat := ts.foldl (fun l t => l ||| tmL s f t) 0
def exOk (s : SrcL) (f : Int) (ts : List TermL) : Bool := decide (0 ≤ f ∧ f < s.funcs.length) && ts.all fun t => !badT s f t
def exN (s : SrcL) (f : Int) (ts : List TermL) : Nat := if exOk s f ts = true then exL s f ts else 0
theorem exL_64 {s : SrcL} (h : s.fine) (f : Int) (ts : List TermL) : exL s f ts < 2 ^ 64 := by
 unfold exL;have : ∀ (ts : List TermL) (a : Nat), a < 2 ^ 64 → ts.foldl (fun l t => l ||| tmL s f t) a < 2 ^ 64 := by
  intro ts
  induction ts with
  | nil => exact fun a h => h
  | cons t ts ih =>
   intro a ha;rw [fcc];refine ih _ (or64 ha ?_);unfold tmL;split
   ·exact labN_64 h f _
   ·decide
 exact this ts 0 (by decide)
theorem exN_64 {s : SrcL} (h : s.fine) (f : Int) (ts : List TermL) : exN s f ts < 2 ^ 64 := by
 unfold exN;split
 ·exact exL_64 h f ts
 ·decide
theorem exL_snoc {s : SrcL} {f : Int} {ts : List TermL} {i : Nat} {t : TermL} (h : ts[i]? = some t) : exL s f (ts.take (i + 1)) = exL s f (ts.take i) ||| tmL s f t := by
 rw [← take_snoc h, exL, List.foldl_append]; rfl
theorem exOk_no {s : SrcL} {f : Int} {ts : List TermL} {i : Nat} {t : TermL} (h : ts[i]? = some t) (hb : badT s f t = true) : exOk s f ts = false := by
 have : (ts.all fun t => !badT s f t) = false := by
  rw [← Bool.not_eq_true, aet];intro k;have := k t (mog h);rw [hb] at this;cases this
 rw [exOk, this, Bool.and_false]
theorem exOk_all {s : SrcL} {f : Int} {ts : List TermL} (hf : 0 ≤ f ∧ f < s.funcs.length) (h : ∀ (i : Nat) (t : TermL), ts[i]? = some t → badT s f t = false) : exOk s f ts = true := by
 rw [exOk, decide_eq_true hf, Bool.true_and, aet];intro t ht;obtain ⟨i, hi⟩ := List.getElem?_of_mem ht;rw [h i t hi]; rfl
end Go.Ab
namespace Go.Ab
open Go.Proofs
section
variable {T : Tab} {nt : NT} {m : Sy} {s : St}
theorem op_subE {xt yt : TypeId} {x y : Operand} {a b r : Int} (hx : evY m x = some (.int .i64 a)) (hy : evY m y = some (.int .i64 b)) (h : In64 (a - b)) (e : a - b = r) :
  ∀ t, Has t nt m → evOp T (.binOp .sub xt x y yt) t s = some (.val (.int .i64 r), s) := by subst e; exact op_sub hx hy h
end
theorem u64_cast {a : Int} (h : U64 a) : ((a.toNat : Nat) : Int) = a := by have := h.1; omega
theorem of_ok {s : St} {c : List AV} {x : SrcL} {k : Nat} {y : FunL} {nm : ByteArray} {a b : Int} (hok : s.Ok) (hx : x.small) (hfi : x.fine) (hv : SrcP x c) (hy : x.funcs[k]? = some y) (hp : fN x (k : Nat) nm = (a, b)) :
  CallS Try.prog Tt Kt 66 [.agg c, .int .i64 (k : Nat), .agg [.int .i64 a, .int .i64 b]] s fun r s' => Keep [] s s' ∧ r = .int .u64 (labN x (k : Nat) (a, b) : Nat) := by
 have hz := hv.leaf;obtain ⟨vp, vg, va, vc, vf, rfl, hvp, hvg, hva, hvc, csf, hrf, hlf, hF⟩ := id hv;obtain ⟨hl1, hl2, hl3, hl4, hl5, hsm⟩ := id hx;have hsf : vf.slen = some x.funcs.length := by rw [hrf.slen, hlf]
 have hkl := (ges.1 hy).1;obtain ⟨cy, hcy⟩ : ∃ c, csf[k]? = some c := ⟨_, gee (by omega)⟩;obtain ⟨yp, yr, yv, yb, rfl, hyp, hyr, hyv, hyb⟩ := hF k y cy hy hcy;obtain ⟨hy1, hy2, hy3, hy4, hy5⟩ := id (hsm y (mog hy));have hyf := hfi.2.2.2.2 y (mog hy);have hsp : yp.slen = some y.params.length := by rw [hyp.slen, lmm]
 refine cof 70 Try.func66 ?_;refine aq0 ?_;have hS := SH.start hok;refine aq0 ?_;refine ws_box hS rfl rfl rfl hz ?_;rintro p0 z hS hk;have hS : SH _ [_] z _ := hS;refine ws_box hS rfl rfl rfl (by rfl) ?_;rintro p1 z hS hk;have hS : SH _ [_, _] z _ := hS;have hK := hS.K;refine aq2 ?_;refine wvz (oL 1 hS) ?_;refine aq2 ?_;refine wcb (fun h10 => ?_) (fun h10 => ?_)
 ·obtain ⟨q, d, hq, hd, hl⟩ := fN_1 hp h10;have hq : b = (q : Nat) := hq;subst hq;rw [locN_in hy] at hd;have hdl : q < y.params.length + y.vars.length := by have := (ges.1 hd).1; rwa [laa] at this
  refine aq1 ?_;refine wvz (v := vf) (oL 0 hS) ?_;refine aq1 ?_;refine wvz (oI (RowP.up hrf _)) ?_;refine wvz (oF (Row.pt (RowP.up hrf z.h) hcy)) ?_;refine wvz (v := yp) (oM (Pt.fld (Row.pt (RowP.up hrf z.h) hcy) _ (nl rfl))) ?_;refine aq2 ?_;refine wvz (oL 1 hS) ?_;refine aq1 ?_;refine wvz (oN hsp) ?_;refine aq1 ?_;refine wcd (fun h22 => ?_) (fun h22 => ?_)
  ·have hlt : q < y.params.length := by omega
   rw [gal hlt] at hd;have hdf := hyf.2.2.1 d (mog hd);refine aq2 ?_;refine wvz (oL 1 hS) ?_;refine wvz (oJ (RowP.up hyp _)) ?_;refine wvz (oF (Row.mk_pt (RowP.up hyp z.h) hd)) ?_;refine wvz (v := .int .u64 d.label) (oM (Pt.fld (Row.mk_pt (RowP.up hyp z.h) hd) _ (nl rfl))) ?_;refine aq1 ?_;exact ⟨_, rfl, hK, by rw [hl, u64_cast hdf.2]; rfl⟩
  have hlt : y.params.length ≤ q := by omega
  rw [gar hlt] at hd;have hdf := hyf.2.2.2.2 d (mog hd);have hqs : (q : Int) - (y.params.length : Int) = ((q - y.params.length : Nat) : Int) := by omega
  refine aq0 ?_;refine wc_draw (fun _ => True) (by kernel_rfl) rfl ?_;refine wdv (op_fldP rfl rfl rfl rfl (by decide)) ?_;refine wdv (v := vf) (oM (Pt.bare ((hS.pt 0 rfl).at (nl rfl)))) ?_;refine aq1 ?_;refine wdv (oI (RowP.up hrf _)) ?_;refine wdv (oF (Row.pt (RowP.up hrf _) hcy)) ?_;refine wdv (v := yv) (oM (Pt.fld (Row.pt (RowP.up hrf _) hcy) _ (nl rfl))) ?_;refine wdv (op_fldP rfl rfl rfl rfl (by decide)) ?_;refine wdv (oM (Pt.bare ((hS.pt 1 rfl).at (nl rfl)))) ?_;refine aq1 ?_;refine wdv (oN hsp) ?_;refine wdv (v := .int .i64 ((q - y.params.length : Nat) : Int)) (op_subE rfl rfl (by unfold In64; omega) hqs) ?_;refine wdv (oJ (RowP.up hyv _)) ?_;refine wdv (oF (Row.mk_pt (RowP.up hyv _) hd)) ?_;refine wdv (v := .int .u64 d.label) (oM (Pt.fld (Row.mk_pt (RowP.up hyv _) hd) _ (nl rfl))) ?_;refine aq1 ?_;exact ⟨_, rfl, hK, by rw [hl, u64_cast hdf.2]; rfl⟩
 refine aq2 ?_;refine wcb (fun h43 => ?_) (fun h43 => ?_)
 ·obtain ⟨q, d, hq, hd, hl⟩ := fN_2 hp h43;have hq : b = (q : Nat) := hq;subst hq;have hdl := (ges.1 hd).1;have hdf := hfi.2.1 d (mog hd);refine aq1 ?_;refine wvz (v := vg) (oL 0 hS) ?_;refine aq1 ?_;refine wvz (oL 1 hS) ?_;refine wvz (oJ (RowP.up hvg _)) ?_;refine wvz (oF (Row.mk_pt (RowP.up hvg z.h) hd)) ?_;refine wvz (v := .int .u64 d.label) (oM (Pt.fld (Row.mk_pt (RowP.up hvg z.h) hd) _ (nl rfl))) ?_;refine aq1 ?_;exact ⟨_, rfl, hK, by rw [hl, u64_cast hdf.2]; rfl⟩
 refine aq2 ?_;refine wcb (fun h52 => ?_) (fun h52 => ?_)
 ·obtain ⟨q, d, hq, hd, hl⟩ := fN_3 hp h52;have hq : b = (q : Nat) := hq;subst hq;have hdl := (ges.1 hd).1;have hdf := hfi.2.2.1 d (mog hd);refine aq1 ?_;refine wvz (v := va) (oL 0 hS) ?_;refine aq1 ?_;refine wvz (oL 1 hS) ?_;refine wvz (oJ (RowP.up hva _)) ?_;refine wvz (oF (Row.mk_pt (RowP.up hva z.h) hd)) ?_;refine wvz (v := .int .u64 d.label) (oM (Pt.fld (Row.mk_pt (RowP.up hva z.h) hd) _ (nl rfl))) ?_;refine aq1 ?_;exact ⟨_, rfl, hK, by rw [hl, u64_cast hdf.2]; rfl⟩
 refine aq2 ?_;refine wcb (fun h61 => ?_) (fun h61 => ?_)
 ·obtain ⟨q, d, hq, hd, hl⟩ := fN_4 hp h61;have hq : b = (q : Nat) := hq;subst hq;have hdl := (ges.1 hd).1;have hdf := hfi.2.2.2.1 d (mog hd);refine aq1 ?_;refine wvz (v := vc) (oL 0 hS) ?_;refine aq1 ?_;refine wvz (oL 1 hS) ?_;refine wvz (oJ (RowP.up hvc _)) ?_;refine wvz (oF (Row.mk_pt (RowP.up hvc z.h) hd)) ?_;refine wvz (v := .int .u64 d.label) (oM (Pt.fld (Row.mk_pt (RowP.up hvc z.h) hd) _ (nl rfl))) ?_;refine aq1 ?_;exact ⟨_, rfl, hK, by rw [hl, u64_cast hdf.2]; rfl⟩
 refine aq1 ?_;exact ⟨_, rfl, hK, by rw [labN_0 h10 h43 h52 h61]; rfl⟩
theorem label_ref_ok {s : St} {c : List AV} {x : SrcL} {k : Nat} {y : FunL} {nm : ByteArray} (hok : s.Ok) (hx : x.small) (hfi : x.fine) (hv : SrcP x c) (hy : x.funcs[k]? = some y) :
  CallS Try.prog Tt Kt 73 [.agg c, .int .i64 (k : Nat), .str nm] s fun r s' => Keep [] s s' ∧ ∃ b, r = .tup [.int .u64 (labN x (k : Nat) (fN x (k : Nat) nm) : Nat), .bool b] := by
 have hz := hv.leaf;obtain ⟨vp, vg, va, vc, vf, rfl, hvp, hvg, hva, hvc, csf, hrf, hlf, hF⟩ := id hv;obtain ⟨hl1, hl2, hl3, hl4, hl5, hsm⟩ := id hx;have hsf : vf.slen = some x.funcs.length := by rw [hrf.slen, hlf]
 have hkl := (ges.1 hy).1;obtain ⟨cy, hcy⟩ : ∃ c, csf[k]? = some c := ⟨_, gee (by omega)⟩;obtain ⟨yp, yr, yv, yb, rfl, hyp, hyr, hyv, hyb⟩ := hF k y cy hy hcy;obtain ⟨hy1, hy2, hy3, hy4, hy5⟩ := id (hsm y (mog hy));have hyf := hfi.2.2.2.2 y (mog hy);have hsp : yp.slen = some y.params.length := by rw [hyp.slen, lmm]
 obtain ⟨⟨a, b⟩, hp⟩ : ∃ p, fN x (k : Nat) nm = p := ⟨_, rfl⟩;have hcall : ∀ {s' : St}, s'.Ok → CallS Try.prog Tt Kt 75 [.agg [vp, vg, va, vc, vf], .int .i64 (k : Nat), .str nm] s' fun r z' => Keep [] s' z' ∧ r = .tup [.int .i64 a, .int .i64 b] := fun ho => (find_ref_ok ho hx hv).mono fun r z' h => ⟨h.1, by rw [h.2, hp]⟩;refine cof 81 Try.func73 ?_;refine aq0 ?_;have hS := SH.start hok;refine aq0 ?_;refine ws_box hS rfl rfl rfl hz ?_;rintro p0 z hS hk;have hS : SH _ [_] z _ := hS;refine aq2 ?_;refine wvz (v := .agg [vp, vg, va, vc, vf]) (oL 0 hS) ?_;refine aq2 ?_;refine wkz (hcall hS.ok) ?_;rintro _ z ⟨hk, rfl⟩;have hS := hS.mov hk;have hK := hS.K;refine aq8 ?_;refine wcb (fun h18 => ?_) (fun h18 => ?_)
 ·obtain ⟨q, d, hq, hd, hl⟩ := fN_1 hp h18;have hq : b = (q : Nat) := hq;subst hq;rw [locN_in hy] at hd;have hdl : q < y.params.length + y.vars.length := by have := (ges.1 hd).1; rwa [laa] at this
  refine aq2 ?_;refine wvz (v := vf) (oL 0 hS) ?_;refine aq1 ?_;refine wvz (oI (RowP.up hrf _)) ?_;refine wvz (oF (Row.pt (RowP.up hrf z.h) hcy)) ?_;refine wvz (v := yp) (oM (Pt.fld (Row.pt (RowP.up hrf z.h) hcy) _ (nl rfl))) ?_;refine wvz (oN hsp) ?_;refine aq1 ?_;refine wcd (fun h28 => ?_) (fun h28 => ?_)
  ·have hlt : q < y.params.length := by omega
   rw [gal hlt] at hd;have hdf := hyf.2.2.1 d (mog hd);refine aq1 ?_;refine wvz (v := vf) (oL 0 hS) ?_;refine aq1 ?_;refine wvz (oI (RowP.up hrf _)) ?_;refine wvz (oF (Row.pt (RowP.up hrf z.h) hcy)) ?_;refine wvz (v := yp) (oM (Pt.fld (Row.pt (RowP.up hrf z.h) hcy) _ (nl rfl))) ?_;refine aq1 ?_;refine wvz (oJ (RowP.up hyp _)) ?_;refine wvz (oF (Row.mk_pt (RowP.up hyp z.h) hd)) ?_;refine wvz (v := .int .u64 d.label) (oM (Pt.fld (Row.mk_pt (RowP.up hyp z.h) hd) _ (nl rfl))) ?_;refine aq2 ?_;exact ⟨_, rfl, hK, true, by rw [hp, hl, u64_cast hdf.2]; rfl⟩
  have hlt : y.params.length ≤ q := by omega
  rw [gar hlt] at hd;have hdf := hyf.2.2.2.2 d (mog hd);have hqs : (q : Int) - (y.params.length : Int) = ((q - y.params.length : Nat) : Int) := by omega
  refine aq0 ?_;refine wc_draw (fun _ => True) (by kernel_rfl) rfl ?_;refine wdv (op_fldP rfl rfl rfl rfl (by decide)) ?_;refine wdv (v := vf) (oM (Pt.bare ((hS.pt 0 rfl).at (nl rfl)))) ?_;refine aq1 ?_;refine wdv (oI (RowP.up hrf _)) ?_;refine wdv (oF (Row.pt (RowP.up hrf _) hcy)) ?_;refine wdv (v := yv) (oM (Pt.fld (Row.pt (RowP.up hrf _) hcy) _ (nl rfl))) ?_;refine aq1 ?_;refine wdv (op_fldP rfl rfl rfl rfl (by decide)) ?_;refine wdv (v := vf) (oM (Pt.bare ((hS.pt 0 rfl).at (nl rfl)))) ?_;refine aq1 ?_;refine wdv (oI (RowP.up hrf _)) ?_;refine wdv (oF (Row.pt (RowP.up hrf _) hcy)) ?_;refine wdv (v := yp) (oM (Pt.fld (Row.pt (RowP.up hrf _) hcy) _ (nl rfl))) ?_;refine wdv (oN hsp) ?_;refine wdv (v := .int .i64 ((q - y.params.length : Nat) : Int)) (op_subE rfl rfl (by unfold In64; omega) hqs) ?_;refine wdv (oJ (RowP.up hyv _)) ?_;refine wdv (oF (Row.mk_pt (RowP.up hyv _) hd)) ?_;refine wdv (v := .int .u64 d.label) (oM (Pt.fld (Row.mk_pt (RowP.up hyv _) hd) _ (nl rfl))) ?_;refine aq2 ?_;exact ⟨_, rfl, hK, true, by rw [hp, hl, u64_cast hdf.2]; rfl⟩
 refine aq2 ?_;refine wcb (fun h57 => ?_) (fun h57 => ?_)
 ·obtain ⟨q, d, hq, hd, hl⟩ := fN_2 hp h57;have hq : b = (q : Nat) := hq;subst hq;have hdl := (ges.1 hd).1;have hdf := hfi.2.1 d (mog hd);refine aq1 ?_;refine wvz (v := vg) (oL 0 hS) ?_;refine aq1 ?_;refine wvz (oJ (RowP.up hvg _)) ?_;refine wvz (oF (Row.mk_pt (RowP.up hvg z.h) hd)) ?_;refine wvz (v := .int .u64 d.label) (oM (Pt.fld (Row.mk_pt (RowP.up hvg z.h) hd) _ (nl rfl))) ?_;refine aq2 ?_;exact ⟨_, rfl, hK, true, by rw [hp, hl, u64_cast hdf.2]; rfl⟩
 refine aq2 ?_;refine wcb (fun h65 => ?_) (fun h65 => ?_)
 ·obtain ⟨q, d, hq, hd, hl⟩ := fN_3 hp h65;have hq : b = (q : Nat) := hq;subst hq;have hdl := (ges.1 hd).1;have hdf := hfi.2.2.1 d (mog hd);refine aq1 ?_;refine wvz (v := va) (oL 0 hS) ?_;refine aq1 ?_;refine wvz (oJ (RowP.up hva _)) ?_;refine wvz (oF (Row.mk_pt (RowP.up hva z.h) hd)) ?_;refine wvz (v := .int .u64 d.label) (oM (Pt.fld (Row.mk_pt (RowP.up hva z.h) hd) _ (nl rfl))) ?_;refine aq2 ?_;exact ⟨_, rfl, hK, true, by rw [hp, hl, u64_cast hdf.2]; rfl⟩
 refine aq2 ?_;refine wcb (fun h73 => ?_) (fun h73 => ?_)
 ·obtain ⟨q, d, hq, hd, hl⟩ := fN_4 hp h73;have hq : b = (q : Nat) := hq;subst hq;have hdl := (ges.1 hd).1;have hdf := hfi.2.2.2.1 d (mog hd);refine aq1 ?_;refine wvz (v := vc) (oL 0 hS) ?_;refine aq1 ?_;refine wvz (oJ (RowP.up hvc _)) ?_;refine wvz (oF (Row.mk_pt (RowP.up hvc z.h) hd)) ?_;refine wvz (v := .int .u64 d.label) (oM (Pt.fld (Row.mk_pt (RowP.up hvc z.h) hd) _ (nl rfl))) ?_;refine aq2 ?_;exact ⟨_, rfl, hK, true, by rw [hp, hl, u64_cast hdf.2]; rfl⟩
 refine aq2 ?_;exact ⟨_, rfl, hK, false, by rw [hp, labN_0 h18 h57 h65 h73]; rfl⟩
def k57 (ks : List Int) (k : Nat) : Prop := ks.getD k 0 = 5 ∨ ks.getD k 0 = 7
structure Stp (ks : List Int) (i : Nat) (a b : E1) : Prop where
 opn : ∀ k ∈ b.opn, k ∈ a.opn ∨ k = i
 same : ∀ k, k < i → k57 ks k → k ∉ a.opn → b.ends.getD k 0 = a.ends.getD k 0
 shut : ∀ k ∈ a.opn, k ∉ b.opn → b.ends.getD k 0 = i ∧ a.opn.getLast? = some k ∧ ks.getD i 0 = 8
 els : ∀ k, k < i → 0 ≤ a.elses.getD k 0 → b.elses.getD k 0 = a.elses.getD k 0
 stay : ks.getD i 0 ≠ 8 → ∀ k ∈ a.opn, k ∈ b.opn
 drop : ks.getD i 0 = 8 → b.opn = a.opn.dropLast ∧ a.opn ≠ []
 opens : k57 ks i → b.opn = a.opn ++ [i]
 other : ¬ k57 ks i → ks.getD i 0 ≠ 8 → b.opn = a.opn
 six : ks.getD i 0 = 6 → ∃ o, a.opn.getLast? = some o ∧ b.elses.getD o 0 = i
 e6 : ∀ k ∈ a.opn, k ∉ b.opn → 0 ≤ b.elses.getD k 0 → b.ends.getD (b.elses.getD k 0).toNat 0 = i
 keep6 : ∀ k, k < i → k ∉ a.opn → 0 ≤ a.elses.getD k 0 → b.ends.getD (a.elses.getD k 0).toNat 0 = a.ends.getD (a.elses.getD k 0).toNat 0
theorem mem_last {α : Type} {l : List α} {x : α} (h : l.getLast? = some x) : x ∈ l := by
 exact List.mem_of_getLast? h
theorem mem_drop1 {l : List Nat} {x : Nat} (h : x ∈ l.dropLast) : x ∈ l := (List.dropLast_sublist l).subset h
theorem drop_mem {l : List Nat} (hn : l.Nodup) {o : Nat} (h : l.getLast? = some o) {k : Nat} (hk : k ∈ l) : k ∉ l.dropLast ↔ k = o := by
 obtain ⟨L, x, rfl⟩ := snoc_of (l := l) (by cases l with | nil => cases hk | cons => simp);simp only [List.getLast?_append, List.getLast?_singleton, Option.some_or, sjj] at h;subst h;rw [List.dropLast_concat];simp only [List.mem_append, msi] at hk;have hd : x ∉ L := by
  rw [List.nodup_append] at hn;intro hx;exact hn.2.2 x hx x (by simp) rfl
 constructor
 ·intro h; exact hk.elim (fun h' => (h h').elim) id
 ·rintro rfl; exact hd
theorem Rel.stp {ks : List Int} {i : Nat} {a r b : E1} (h : Rel ks i a r) (hi : i < ks.length) (hs : step1 ks i a = some b) : Stp ks i a b := by
 have hni : i ∉ a.opn := fun hm => by have := h.lt i hm; omega
 unfold step1 at hs;split at hs
 ·rename_i hk;cases hs;refine ⟨fun k hk => (by simpa using hk), fun _ _ _ _ => rfl, fun k h1 h2 => (h2 (by simp [h1])).elim, fun _ _ _ => rfl, fun _ k hk => (by simp [hk]), fun h8 => by omega, fun _ => rfl, fun hn _ => (hn hk).elim, fun h6 => by omega, fun k h1 h2 => (h2 (by simp [h1])).elim, fun _ _ _ _ => rfl⟩
 ·rename_i hk;split at hs
  ·rename_i h6;split at hs
   ·cases hs
   ·rename_i o ho;split at hs
    ·cases hs
    ·rename_i hc;cases hs;have hom := mem_last ho;have hoi := h.lt o hom;have hlen : o < a.elses.length := by rw [h.l2]; omega
     refine ⟨fun k hk => .inl hk, fun _ _ _ _ => rfl, fun k h1 h2 => (h2 h1).elim, fun k hki h0 => ?_, fun _ k hk => hk, fun h8 => by omega, fun h5 => (hk h5).elim, fun _ _ => rfl, fun _ => ⟨o, ho, ?_⟩, fun k h1 h2 => (h2 h1).elim, fun _ _ _ _ => rfl⟩
     ·simp only;rw [gset];by_cases e : o = k
      ·subst e; omega
      ·rw [if_neg (fun h => e h.1)]
     ·simp only;rw [gset, if_pos ⟨rfl, hlen⟩]
  ·rename_i h6;split at hs
   ·rename_i h8;split at hs
    ·cases hs
    ·rename_i o ho;cases hs;have hom := mem_last ho;have hoi := h.lt o hom;have hlen : o < a.ends.length := by rw [h.l1]; omega
     have hne : a.opn ≠ [] := fun e => by rw [e] at hom; cases hom
     have hko := h.kd o hom;have hend : ∀ k, k ≠ o → (∀ e, 0 ≤ a.elses.getD o 0 → e = (a.elses.getD o 0).toNat → k ≠ e) → (if a.elses.getD o 0 ≥ 0 then (a.ends.set o (i : Int)).set (a.elses.getD o 0).toNat (i : Int) else a.ends.set o (i : Int)).getD k 0 = a.ends.getD k 0 := by
      intro k hk he;split
      ·rename_i h0;rw [gset, if_neg (fun h => he _ h0 rfl h.1.symm), gset, if_neg (fun h => hk h.1.symm)]
      ·rw [gset, if_neg (fun h => hk h.1.symm)]
     have hev : 0 ≤ a.elses.getD o 0 → (a.elses.getD o 0).toNat < i ∧ ks.getD (a.elses.getD o 0).toNat 0 = 6 := fun h0 => ⟨(h.ev o hoi h0).1, (h.ev o hoi h0).2.1⟩;refine ⟨fun k hk => .inl (mem_drop1 hk), fun k hki hk5 hkn => ?_, fun k h1 h2 => ?_, fun _ _ _ => rfl, fun h8' => (h8' h8).elim, fun _ => ⟨rfl, hne⟩, fun h5 => (hk h5).elim, fun _ h8' => (h8' h8).elim, fun h6' => (h6 h6').elim, fun k h1 h2 h0 => ?_, fun k hki hkn h0 => ?_⟩
     ·refine hend k (fun e => hkn (e ▸ hom)) fun e h0 he => ?_;have := (hev h0).2;intro hke;subst hke;rw [← he] at this;unfold k57 at hk5; omega
     ·have hke : k = o := (drop_mem h.nd ho h1).1 h2;subst hke;refine ⟨?_, ho, h8⟩;simp only;split
      ·rename_i h0;rw [gset];split
       ·rfl
       ·rw [gset, if_pos ⟨rfl, hlen⟩]
      ·rw [gset, if_pos ⟨rfl, hlen⟩]
     ·have hke : k = o := (drop_mem h.nd ho h1).1 h2;subst hke;simp only at h0 ⊢;rw [if_pos h0, gset, if_pos ⟨rfl, by rw [List.length_set, h.l1]; have := (hev h0).1; omega⟩]
     ·refine hend _ (fun e => ?_) fun e h0' he hee => ?_
      ·have := (h.ev k hki h0).2.1;rw [e] at this;omega
      ·subst hee;have h1 := h.ij k o hki hoi h0 (by omega);subst h1;exact hkn hom
   ·rename_i h8;cases hs;refine ⟨fun k hk => .inl hk, fun _ _ _ _ => rfl, fun k h1 h2 => (h2 h1).elim, fun _ _ _ => rfl, fun _ k hk => hk, fun h8' => (h8 h8').elim, fun h5 => (hk h5).elim, fun _ _ => rfl, fun h6' => (h6 h6').elim, fun k h1 h2 => (h2 h1).elim, fun _ _ _ _ => rfl⟩
theorem iter_rel {ks : List Int} {i : Nat} {a : E1} (hi : i ≤ ks.length) (h : iter1 ks i = some a) : ∃ r, Rel ks i a r := by
 have := iter_both ks i hi;rw [h] at this;cases e : iter2 ks i with
 | none => rw [e] at this; exact this.elim
 | some r => rw [e] at this; exact ⟨r, this⟩
theorem iter_prev {ks : List Int} {j : Nat} {b : E1} (h : iter1 ks j = some b) : ∀ i, i ≤ j → ∃ a, iter1 ks i = some a := by
 intro i hi;cases e : iter1 ks i with
 | none => rw [iter1_none e j hi] at h; cases h
 | some a => exact ⟨a, rfl⟩
theorem iter_stp {ks : List Int} {i : Nat} {a b : E1} (hi : i < ks.length) (h : iter1 ks i = some a) (k : iter1 ks (i + 1) = some b) : Stp ks i a b := by
 obtain ⟨r, hr⟩ := iter_rel (Nat.le_of_lt hi) h;refine hr.stp hi ?_;rw [iter1, h] at k;exact k
structure Shut (ks : List Int) (i : Nat) (a : E1) : Prop where
 cl : ∀ k, k < i → k57 ks k → k ∉ a.opn → ∃ j a', a.ends.getD k 0 = (j : Nat) ∧ j < i ∧ iter1 ks j = some a' ∧ a'.opn.getLast? = some k
 e6 : ∀ k, k < i → k57 ks k → k ∉ a.opn → 0 ≤ a.elses.getD k 0 → a.ends.getD (a.elses.getD k 0).toNat 0 = a.ends.getD k 0
theorem shut_all {ks : List Int} : ∀ (i : Nat) (a : E1), i ≤ ks.length → iter1 ks i = some a → Shut ks i a
 | 0, a, _, _ => ⟨fun k h => by omega, fun k h => by omega⟩
 | i + 1, b, hi, hb => by
  obtain ⟨a, ha⟩ := iter_prev hb i (by omega);have ih := shut_all i a (by omega) ha;obtain ⟨r, hr⟩ := iter_rel (by omega) ha;have hs := iter_stp (by omega) ha hb;have hki : ∀ k, k < i + 1 → k57 ks k → k ∉ b.opn → k < i := fun k hk h5 hn => by
   by_cases e : k = i
   ·subst e; exact (hn (by rw [hs.opens h5]; simp)).elim
   ·omega
  refine ⟨fun k hk h5 hn => ?_, fun k hk h5 hn h0 => ?_⟩
  ·have hk' := hki k hk h5 hn;by_cases hm : k ∈ a.opn
   ·obtain ⟨h1, h2, -⟩ := hs.shut k hm hn;exact ⟨i, a, h1, by omega, ha, h2⟩
   ·obtain ⟨j, a', h1, h2, h3, h4⟩ := ih.cl k hk' h5 hm;exact ⟨j, a', by rw [hs.same k hk' h5 hm, h1], by omega, h3, h4⟩
  ·have hk' := hki k hk h5 hn;by_cases hm : k ∈ a.opn
   ·rw [hs.e6 k hm hn h0, (hs.shut k hm hn).1]
   ·have h0' : 0 ≤ a.elses.getD k 0 := by
     by_cases hc : 0 ≤ a.elses.getD k 0
     ·exact hc
     ·exfalso
      by_cases h6 : ks.getD i 0 = 6
      ·obtain ⟨o, ho, ho'⟩ := hs.six h6;have hom := mem_last ho;have hne : k ≠ o := fun e => hm (e ▸ hom);obtain ⟨r', hr'⟩ := iter_rel hi hb;have hoi := hr.lt o hom;have hstep : step1 ks i a = some b := by rw [iter1, ha] at hb; exact hb
       unfold step1 at hstep;rw [if_neg (by omega), if_pos h6, ho] at hstep;simp only at hstep;split at hstep
       ·cases hstep
       ·cases hstep;simp only at h0;rw [gset, if_neg (fun h => hne h.1.symm)] at h0;exact hc h0
      ·have hstep : step1 ks i a = some b := by rw [iter1, ha] at hb; exact hb
       unfold step1 at hstep;by_cases h57 : ks.getD i 0 = 5 ∨ ks.getD i 0 = 7
       ·rw [if_pos h57] at hstep; cases hstep; exact hc h0
       ·rw [if_neg h57, if_neg h6] at hstep;split at hstep
        ·split at hstep
         ·cases hstep
         ·cases hstep; exact hc h0
        ·cases hstep; exact hc h0
    rw [hs.els k hk' h0', hs.keep6 k hk' hm h0', hs.same k hk' h5 hm, ih.e6 k hk' h5 hm h0']
theorem iter_on {ks : List Int} {i : Nat} {a : E1} (ha : iter1 ks i = some a) : ∀ (d : Nat) (b : E1), i + d ≤ ks.length → iter1 ks (i + d) = some b →
  (∀ k, k < i → k57 ks k → k ∉ a.opn → k ∉ b.opn ∧ b.ends.getD k 0 = a.ends.getD k 0) ∧ (∀ k ∈ a.opn, k ∉ b.opn → (i : Int) ≤ b.ends.getD k 0) ∧ (∀ k, k < i → 0 ≤ a.elses.getD k 0 → b.elses.getD k 0 = a.elses.getD k 0)
 | 0, b, _, hb => by
  rw [Nat.add_zero, ha] at hb;cases hb;exact ⟨fun k _ _ h => ⟨h, rfl⟩, fun k h1 h2 => (h2 h1).elim, fun _ _ _ => rfl⟩
 | d + 1, c, hd, hc => by
  obtain ⟨b, hb⟩ := iter_prev hc (i + d) (by omega);obtain ⟨h1, h2, h3⟩ := iter_on ha d b (by omega) hb;have hs := iter_stp (i := i + d) (by omega) hb hc;refine ⟨fun k hk h5 hn => ?_, fun k hk hn => ?_, fun k hk h0 => ?_⟩
  ·obtain ⟨k1, k2⟩ := h1 k hk h5 hn;refine ⟨fun hm => ?_, by rw [hs.same k (by omega) h5 k1, k2]⟩;rcases hs.opn k hm with h | h
   ·exact k1 h
   ·omega
  ·by_cases hm : k ∈ b.opn
   ·rw [(hs.shut k hm hn).1]; omega
   ·have := h2 k hk hm;obtain ⟨r, hr⟩ := iter_rel (by omega) ha;have hki := hr.lt k hk;rw [hs.same k (by omega) (hr.kd k hk) hm]; exact this
  ·have := h3 k hk h0;rw [hs.els k (by omega) (by omega), this]
def exOr (lv : Nat) (w : Nat → Nat) (l : List Nat) : Nat := l.foldl (fun a k => a ||| w k) lv
theorem exOr_bit (w : Nat → Nat) (j : Nat) : ∀ (l : List Nat) (lv : Nat), (exOr lv w l).testBit j = (lv.testBit j || l.any fun k => (w k).testBit j)
 | [], lv => by simp [exOr]
 | x :: l, lv => by
  have := exOr_bit w j l (lv ||| w x);unfold exOr at this ⊢;rw [fcc, this, Nat.testBit_or, List.any_cons, Bool.or_assoc]
theorem exOr_same {lv : Nat} {w : Nat → Nat} {l r : List Nat} (h : ∀ k, k ∈ l ↔ k ∈ r) : exOr lv w l = exOr lv w r := by
 refine Nat.eq_of_testBit_eq fun j => ?_;rw [exOr_bit, exOr_bit]
 congr 1
 rw [Bool.eq_iff_iff, List.any_eq_true, List.any_eq_true]
 constructor
 ·rintro ⟨k, h1, h2⟩; exact ⟨k, (h k).1 h1, h2⟩
 ·rintro ⟨k, h1, h2⟩; exact ⟨k, (h k).2 h1, h2⟩
def insideB (ks : List Int) (E : List Int) (i k : Nat) : Bool := (ks.getD k 0 == 5 || ks.getD k 0 == 7) && decide ((i : Int) < E.getD k 0) && !(ks.getD i 0 == 6 && E.getD i 0 == E.getD k 0)
def lvOpn (ks : List Int) (i : Nat) (a : E1) : List Nat := if ks.getD i 0 = 6 ∨ ks.getD i 0 = 8 then a.opn.dropLast else a.opn
theorem inside_opn {ks E L : List Int} (hE : ends1 ks = some (E, L)) {i : Nat} {a : E1} (hi : i < ks.length) (ha : iter1 ks i = some a) (k : Nat) : (k < i ∧ insideB ks E i k = true) ↔ k ∈ lvOpn ks i a := by
 unfold ends1 at hE;split at hE
 ·cases hE
 ·rename_i z hz;split at hE
  ·rename_i hzn;cases hE;obtain ⟨b, hb⟩ := iter_prev hz (i + 1) (by omega);obtain ⟨r, hr⟩ := iter_rel (Nat.le_of_lt hi) ha;obtain ⟨rb, hrb⟩ := iter_rel hi hb;have hs := iter_stp hi ha hb;have h0 := iter_on ha (ks.length - i) z (by omega) (by rw [show i + (ks.length - i) = ks.length by omega]; exact hz);have h1 := iter_on hb (ks.length - (i + 1)) z (by omega) (by rw [show i + 1 + (ks.length - (i + 1)) = ks.length by omega]; exact hz);have hsz := shut_all ks.length z (nlr _) hz;have hnz : ∀ k, k ∉ z.opn := fun k h => by rw [hzn] at h; cases h
   -- open here and behind it
   have hlt : ∀ k ∈ a.opn, k ∈ b.opn → (i : Int) < z.ends.getD k 0 := fun k h h' => by
    have := h1.2.1 k h' (hnz k); omega
   have hge : ∀ k, k < i → k57 ks k → k ∉ a.opn → ¬ (i : Int) < z.ends.getD k 0 := fun k hk h5 hn => by
    obtain ⟨j, a', e1, e2, -⟩ := (shut_all i a (by omega) ha).cl k hk h5 hn;rw [(h0.1 k hk h5 hn).2, e1]; omega
   unfold insideB lvOpn;simp only [Bool.and_eq_true, Bool.or_eq_true, beq_iff_eq, dtt, Bool.not_eq_true', Bool.and_eq_false_iff, bff, ne_eq];by_cases h8 : ks.getD i 0 = 8
   ·obtain ⟨hd, hne⟩ := hs.drop h8;rw [if_pos (.inr h8)]
    constructor
    ·rintro ⟨hk, ⟨h5, hl⟩, -⟩;have hm : k ∈ a.opn := Classical.byContradiction fun hn => hge k hk h5 hn hl;rw [← hd];refine Classical.byContradiction fun hn => ?_;have e1 := (hs.shut k hm hn).1;have e2 := (h1.1 k (by omega) h5 hn).2;omega
    ·intro hm;have hma := mem_drop1 hm;exact ⟨hr.lt k hma, ⟨hr.kd k hma, hlt k hma (hd ▸ hm)⟩, .inl (by omega)⟩
   ·by_cases h6 : ks.getD i 0 = 6
    ·rw [if_pos (.inl h6)];obtain ⟨o, ho, hoe⟩ := hs.six h6;have hom := mem_last ho;have hoi := hr.lt o hom;have hko := hr.kd o hom;have hoz := h1.2.2 o (by omega) (by omega);have hei : z.ends.getD i 0 = z.ends.getD o 0 := by
      have := hsz.e6 o (by omega) hko (hnz o) (by omega);rw [hoz, hoe] at this;simpa using this
     have huni : ∀ k, k < i → k57 ks k → z.ends.getD k 0 = z.ends.getD o 0 → k = o := fun k hk h5 he => by
      obtain ⟨j, a1, e1, -, e3, e4⟩ := hsz.cl k (by omega) h5 (hnz k);obtain ⟨j', a2, f1, -, f3, f4⟩ := hsz.cl o (by omega) hko (hnz o);have : j = j' := by omega
      subst this;rw [e3] at f3;cases f3;rw [e4] at f4;exact Option.some.inj f4
     constructor
     ·rintro ⟨hk, ⟨h5, hl⟩, hx⟩;have hm : k ∈ a.opn := Classical.byContradiction fun hn => hge k hk h5 hn hl;refine Classical.byContradiction fun hn => ?_;have : k = o := (drop_mem hr.nd ho hm).1 hn;subst this;rcases hx with hx | hx
      ·exact hx h6
      ·exact hx hei
     ·intro hm;have hma := mem_drop1 hm;refine ⟨hr.lt k hma, ⟨hr.kd k hma, hlt k hma (hs.stay h8 k hma)⟩, .inr fun he => ?_⟩;have : k = o := huni k (hr.lt k hma) (hr.kd k hma) (by rw [← he, hei]);exact (drop_mem hr.nd ho hma).2 this hm
    ·rw [if_neg (by omega)]
     constructor
     ·rintro ⟨hk, ⟨h5, hl⟩, -⟩;exact Classical.byContradiction fun hn => hge k hk h5 hn hl
     ·intro hma;exact ⟨hr.lt k hma, ⟨hr.kd k hma, hlt k hma (hs.stay h8 k hma)⟩, .inl h6⟩
  ·cases hE
theorem level_same {ks E L : List Int} (hE : ends1 ks = some (E, L)) {i : Nat} {a : E1} (hi : i < ks.length) (ha : iter1 ks i = some a) (lv : Nat) (w : Nat → Nat) :
  exOr lv w ((List.range i).filter (insideB ks E i)) = exOr lv w (lvOpn ks i a) := by
 refine exOr_same fun k => ?_;rw [List.mem_filter, List.mem_range, inside_opn hE hi ha k]
end Go.Ab
namespace Go.Ab
open Go.Proofs
def cndL (s : SrcL) (f : Int) (es : List (List TermL)) (a : Nat) : Nat := es.foldl (fun l e => l ||| exN s f e) a
theorem cndL_from (s : SrcL) (f : Int) : ∀ (es : List (List TermL)) (a : Nat), cndL s f es a = a ||| cndL s f es 0
 | [], a => by simp [cndL]
 | e :: es, a => by
  have h1 := cndL_from s f es (a ||| exN s f e);have h2 := cndL_from s f es (0 ||| exN s f e);unfold cndL at h1 h2 ⊢;rw [fcc, fcc, h1, h2, Nat.zero_or, Nat.or_assoc]
theorem cndL_64 {s : SrcL} (h : s.fine) (f : Int) : ∀ (es : List (List TermL)) {a : Nat}, a < 2 ^ 64 → cndL s f es a < 2 ^ 64
 | [], a, ha => ha
 | e :: es, a, ha => by
  have := cndL_64 h f es (or64 ha (exN_64 h f e));unfold cndL at this ⊢;rw [fcc]; exact this
theorem cndL_snoc {s : SrcL} {f : Int} {es : List (List TermL)} {i : Nat} {e : List TermL} {a : Nat} (h : es[i]? = some e) : cndL s f (es.take (i + 1)) a = cndL s f (es.take i) a ||| exN s f e := by
 rw [← take_snoc h, cndL, List.foldl_append]; rfl
def blkW (s : SrcL) (f : Int) (y : FunL) (k : Nat) : Nat := match y.body[k]? with
 | some x => cndL s f x.exprs 0
 | none => 0
theorem blkW_at {s : SrcL} {f : Int} {y : FunL} {k : Nat} {x : StmtL} (h : y.body[k]? = some x) : blkW s f y k = cndL s f x.exprs 0 := by unfold blkW; rw [h]
theorem blkW_64 {s : SrcL} (h : s.fine) (f : Int) (y : FunL) (k : Nat) : blkW s f y k < 2 ^ 64 := by
 unfold blkW;split
 ·exact cndL_64 h f _ (by decide)
 ·decide
theorem exOr_64 {lv : Nat} {w : Nat → Nat} (hw : ∀ k, w k < 2 ^ 64) : ∀ (l : List Nat) {lv : Nat}, lv < 2 ^ 64 → exOr lv w l < 2 ^ 64
 | [], _, h => h
 | k :: l, lv, h => by
  have := exOr_64 (lv := lv) hw l (or64 h (hw k));unfold exOr at this ⊢;rw [fcc]; exact this
theorem exOr_snoc (lv : Nat) (w : Nat → Nat) (l : List Nat) (k : Nat) : exOr lv w (l ++ [k]) = exOr lv w l ||| w k := by
 rw [exOr, List.foldl_append]; rfl
def uC (n : Nat) : List AV := [.int .u64 (n : Nat)]
def stkN (lv : Nat) (w : Nat → Nat) (l : List Nat) : List Nat := (List.range (l.length + 1)).map fun j => exOr lv w (l.take j)
theorem stkN_len (lv : Nat) (w : Nat → Nat) (l : List Nat) : (stkN lv w l).length = l.length + 1 := by simp [stkN]
theorem stkN_get {lv : Nat} {w : Nat → Nat} {l : List Nat} {j : Nat} (h : j ≤ l.length) : (stkN lv w l)[j]? = some (exOr lv w (l.take j)) := by
 rw [stkN, gmm, List.getElem?_range (by omega)]; rfl
theorem stkN_snoc (lv : Nat) (w : Nat → Nat) (l : List Nat) (k : Nat) : stkN lv w (l ++ [k]) = stkN lv w l ++ [exOr lv w l ||| w k] := by
 rw [stkN, laa, List.length_singleton, List.range_succ, List.map_append, stkN]
 congr 1
 ·refine List.map_congr_left fun j hj => ?_;rw [List.mem_range] at hj;rw [List.take_append_of_le_length (by omega)]
 ·rw [List.map_singleton, List.take_of_length_le (by simp), exOr_snoc]
theorem stkN_pop {lv : Nat} {w : Nat → Nat} {l : List Nat} (h : l ≠ []) : stkN lv w l.dropLast = (stkN lv w l).take l.length := by
 have hl : 0 < l.length := List.length_pos_iff.2 h;rw [stkN, stkN, ← List.map_take, List.take_range, List.length_dropLast];have e : min l.length (l.length + 1) = l.length - 1 + 1 := by omega
 rw [e];refine List.map_congr_left fun j hj => ?_;rw [List.mem_range] at hj;rw [List.dropLast_eq_take, List.take_take, Nat.min_eq_left (by omega)]
theorem stkN_top (lv : Nat) (w : Nat → Nat) (l : List Nat) : (stkN lv w l)[l.length]? = some (exOr lv w l) := by rw [stkN_get (nlr _), List.take_length]
theorem stkN_sub {lv : Nat} {w : Nat → Nat} {l : List Nat} : (stkN lv w l)[l.length - 1]? = some (exOr lv w l.dropLast) := by
 rw [stkN_get (by omega), List.dropLast_eq_take]
section
variable {ks : List Int} {i : Nat} {a b : E1}
theorem opn_57 (h : iter1 ks i = some a) (k : iter1 ks (i + 1) = some b) (hk : ks.getD i 0 = 5 ∨ ks.getD i 0 = 7) : b.opn = a.opn ++ [i] := by
 rw [iter1, h] at k;have k : step1 ks i a = some b := k;rw [step1, if_pos hk] at k;cases k; rfl
theorem opn_6 (h : iter1 ks i = some a) (k : iter1 ks (i + 1) = some b) (hk : ks.getD i 0 = 6) : a.opn ≠ [] ∧ b.opn = a.opn := by
 rw [iter1, h] at k;have k : step1 ks i a = some b := k;rw [step1, if_neg (by omega), if_pos hk] at k;split at k
 ·cases k
 ·rename_i o ho;split at k
  ·cases k
  ·cases k;exact ⟨fun e => by rw [e] at ho; exact absurd ho (by simp), rfl⟩
theorem opn_8 (h : iter1 ks i = some a) (k : iter1 ks (i + 1) = some b) (hk : ks.getD i 0 = 8) : a.opn ≠ [] ∧ b.opn = a.opn.dropLast := by
 rw [iter1, h] at k;have k : step1 ks i a = some b := k;rw [step1, if_neg (by omega), if_neg (by omega), if_pos hk] at k;split at k
 ·cases k
 ·rename_i o ho;cases k;exact ⟨fun e => by rw [e] at ho; exact absurd ho (by simp), rfl⟩
theorem opn_same (h : iter1 ks i = some a) (k : iter1 ks (i + 1) = some b) (h5 : ks.getD i 0 ≠ 5) (h7 : ks.getD i 0 ≠ 7) (h8 : ks.getD i 0 ≠ 8) : b.opn = a.opn := by
 by_cases h6 : ks.getD i 0 = 6
 ·exact (opn_6 h k h6).2
 ·rw [iter1, h] at k;have k : step1 ks i a = some b := k;rw [step1, if_neg (by omega), if_neg h6, if_neg h8] at k;cases k; rfl
end
def levI (s : SrcL) (f : Int) (y : FunL) (i : Nat) : Nat := match iter1 (kinds y) i with
 | some a => exOr y.level.toNat (blkW s f y) (lvOpn (kinds y) i a)
 | none => 0
theorem levI_at {s : SrcL} {f : Int} {y : FunL} {i : Nat} {a : E1} (h : iter1 (kinds y) i = some a) : levI s f y i = exOr y.level.toNat (blkW s f y) (lvOpn (kinds y) i a) := by unfold levI; rw [h]
theorem levI_68 {s : SrcL} {f : Int} {y : FunL} {i : Nat} {a : E1} (h : iter1 (kinds y) i = some a) (k : (kinds y).getD i 0 = 6 ∨ (kinds y).getD i 0 = 8) : levI s f y i = exOr y.level.toNat (blkW s f y) a.opn.dropLast := by
 rw [levI_at h, lvOpn, if_pos k]
theorem levI_else {s : SrcL} {f : Int} {y : FunL} {i : Nat} {a : E1} (h : iter1 (kinds y) i = some a) (h6 : (kinds y).getD i 0 ≠ 6) (h8 : (kinds y).getD i 0 ≠ 8) : levI s f y i = exOr y.level.toNat (blkW s f y) a.opn := by
 rw [levI_at h, lvOpn, if_neg (by omega)]
theorem levI_64 {s : SrcL} (h : s.fine) {f : Int} {y : FunL} (hy : U64 y.level) (i : Nat) : levI s f y i < 2 ^ 64 := by
 unfold levI;split
 ·refine exOr_64 (lv := 0) (blkW_64 h f y) _ ?_;have := hy.1;have := hy.2;omega
 ·decide
theorem iter_some {ks : List Int} (h : (ends1 ks).isSome = true) {i : Nat} (hi : i ≤ ks.length) : ∃ a, iter1 ks i = some a := by
 unfold ends1 at h;split at h
 ·cases h
 ·rename_i z hz;exact iter_prev hz i hi
def levY (s : SrcL) (f : Int) (y : FunL) : List Nat := if (ends1 (kinds y)).isSome = true then (List.range y.body.length).map (levI s f y) else []
def levsN (s : SrcL) (f : Int) : List Nat := if 0 ≤ f ∧ f < s.funcs.length then match s.funcs[f.toNat]? with
  | some y => levY s f y
  | none => []
 else []
theorem levsN_in {s : SrcL} {k : Nat} {y : FunL} (h : s.funcs[k]? = some y) : levsN s (k : Nat) = levY s (k : Nat) y := by
 have := (ges.1 h).1;rw [levsN, if_pos ⟨by omega, by omega⟩];simp [h]
end Go.Ab
namespace Go.Ab
open Go.Proofs
def nmL (s : SrcL) (f : Int) (nm : ByteArray) : Nat := labN s f (fN s f nm)
def lsN (s : SrcL) (f : Int) (x : StmtL) : List Nat := x.exprs.map (exN s f)
theorem lsN_64 {s : SrcL} (h : s.fine) (f : Int) (x : StmtL) (i : Nat) : (lsN s f x).getD i 0 < 2 ^ 64 := by
 rw [lsN, gdd, gmm];cases x.exprs[i]? with
 | none => exact (by decide : (0 : Nat) < 2 ^ 64)
 | some e => exact exN_64 h f e
def callK (s : SrcL) (k : Nat) (g : FunL) (x : StmtL) (lv : Nat) : Bool :=
 (List.range x.exprs.length).all (fun i => wN ((lsN s k x).getD i 0 ||| lv) ((g.params.map DeclL.label).getD i 0).toNat) && wN lv g.level.toNat && (List.range x.targets.length).all fun i => wN ((g.results.getD i 0).toNat ||| lv) (nmL s k (x.targets.getD i ByteArray.empty))
def keptK (s : SrcL) (k : Nat) (y : FunL) (x : StmtL) (lv : Nat) : Bool :=
 if x.kind = 1 then wN ((lsN s k x).getD 0 0 ||| lv) (nmL s k (x.targets.getD 0 ByteArray.empty))
 else if x.kind = 2 then wN ((lsN s k x).getD 0 0 ||| lv) (nmL s k x.name) && wN ((lsN s k x).getD 1 0 ||| lv) (nmL s k x.name)
 else if x.kind = 3 then wN ((lsN s k x).getD 0 0 ||| lv) (nmL s k x.name)
 else if x.kind = 4 then match s.funcs[(fN s k x.name).2.toNat]? with
  | some g => callK s k g x lv
  | none => true
 else if x.kind = 9 then (List.range x.exprs.length).all fun i => wN ((lsN s k x).getD i 0 ||| lv) (y.results.getD i 0).toNat
 else true
structure InO (s : SrcL) (k : Nat) (y : FunL) (x : StmtL) : Prop where
 fit : fitK x.kind x.targets.length x.exprs.length (empI x.name)
 call : x.kind = 4 → ∃ (q : Nat) (g : FunL), (fN s k x.name).1 = 5 ∧ (fN s k x.name).2 = q ∧ s.funcs[q]? = some g ∧ x.exprs.length = g.params.length ∧ (x.targets.length = 0 ∨ x.targets.length = g.results.length)
 ret : x.kind = 9 → x.exprs.length = y.results.length
theorem Off.l {l r : List (Bool × Flt)} (h : Off (l ++ r)) : Off l := fun p hp => h p (List.mem_append_left _ hp)
theorem Off.r {l r : List (Bool × Flt)} (h : Off (l ++ r)) : Off r := fun p hp => h p (List.mem_append_right _ hp)
theorem InO.of {s : SrcL} {k i : Nat} {y : FunL} {x : StmtL} (h : Off (stmtT s k y i x)) : InO s k y x := by
 rw [stmtT_eq] at h;have hA := h.l;have hU := h.r.l;have hR := h.r.r.l;have hC := h.r.r.r;refine ⟨?_, fun hk => ?_, fun hk => ?_⟩
 ·have := hA _ (mcs ..);simp only [Bool.not_eq_false'] at this;rw [fitsN, Bool.and_eq_true, decide_eq_true_iff] at this;exact this.2
 ·have h5 := call_kind hU hk;obtain ⟨q, g, e, hg⟩ := fN_fn h5;refine ⟨q, g, h5, e, hg, ?_⟩;unfold callT at hC;rw [if_pos ⟨hk, h5⟩, e, Int.toNat_natCast, hg] at hC;have := hC _ (mcs ..);simp only [Bool.or_eq_false_iff, Bool.and_eq_false_iff, bne_eq_false_iff_eq, dff] at this;omega
 ·unfold retT at hR;rw [if_pos hk] at hR;have := hR _ (mcs ..);simp only [bne_eq_false_iff_eq] at this;omega
def flowT (s : SrcL) (k : Nat) (y : FunL) (i : Nat) : List (Bool × Flt) := match y.body[i]? with
 | some x => [(!keptK s k y x (levI s k y i), ⟨80, k, i⟩)]
 | none => []
def flowF (s : SrcL) (k : Nat) : List (Bool × Flt) := match s.funcs[k]? with
 | some y => (List.range y.body.length).flatMap (flowT s k y)
 | none => []
noncomputable def chkL (s : SrcL) : List (Bool × Flt) := checkL s ++ (List.range s.funcs.length).flatMap (flowF s)
theorem flowT_at {s : SrcL} {k i : Nat} {y : FunL} {x : StmtL} (h : y.body[i]? = some x) : flowT s k y i = [(!keptK s k y x (levI s k y i), ⟨80, k, i⟩)] := by unfold flowT; rw [h]
theorem flowF_at {s : SrcL} {k : Nat} {y : FunL} (h : s.funcs[k]? = some y) : flowF s k = (List.range y.body.length).flatMap (flowT s k y) := by unfold flowF; rw [h]
theorem Off.flat {α : Type} {l : List α} {g : α → List (Bool × Flt)} (h : Off (l.flatMap g)) {a : α} (ha : a ∈ l) : Off (g a) := fun p hp => h p (List.mem_flatMap.2 ⟨a, ha, hp⟩)
theorem ord_fun {s : SrcL} (h : Off (checkL s)) {k : Nat} {y : FunL} (hy : s.funcs[k]? = some y) : Off (headT s k y ++ (List.range y.body.length).flatMap (stmtI s k y)) := by
 have hk := (ges.1 hy).1;have : Off (funT s k) := by
  rw [checkL, checkL_eq] at h;exact h.r.flat (List.mem_range.2 hk)
 unfold funT at this;rw [hy] at this;exact this
theorem ord_stmt {s : SrcL} (h : Off (checkL s)) {k i : Nat} {y : FunL} {x : StmtL} (hy : s.funcs[k]? = some y) (hx : y.body[i]? = some x) : InO s k y x := by
 have hi := (ges.1 hx).1;have h1 : Off (stmtI s k y i) := (ord_fun h hy).r.flat (List.mem_range.2 hi);unfold stmtI at h1;rw [hx] at h1;exact InO.of h1
theorem ord_ends {s : SrcL} (h : Off (checkL s)) {k : Nat} {y : FunL} (hy : s.funcs[k]? = some y) : (ends1 (kinds y)).isSome = true := by
 have h1 : Off (headT s k y) := (ord_fun h hy).l;unfold headT at h1;have h2 := h1.r _ (mcs ..);simp only [Bool.or_eq_false_iff, Bool.not_eq_false'] at h2;exact h2.1
theorem flow_hit {s : SrcL} (h : Off (checkL s)) {k i : Nat} {y : FunL} {x : StmtL} (hy : s.funcs[k]? = some y) (hx : y.body[i]? = some x) (h1 : Off ((List.range k).flatMap (flowF s))) (h2 : Off ((List.range i).flatMap (flowT s k y))) (h3 : keptK s k y x (levI s k y i) = false) : firstF (chkL s) = ⟨80, k, i⟩ := by
 have hk := (ges.1 hy).1;have hi := (ges.1 hx).1;obtain ⟨r, hr⟩ := range_split (flowF s) (show k + 1 ≤ s.funcs.length from hk);obtain ⟨r2, hr2⟩ := range_split (flowT s k y) (show i + 1 ≤ y.body.length from hi);rw [chkL, firstF_off h, hr, range_flat, flowF_at hy, hr2, range_flat, flowT_at hx, h3, aas, firstF_off h1, aas, aas, firstF_off h2]
 rfl
theorem flow_off {s : SrcL} (h : Off (checkL s)) (h1 : Off ((List.range s.funcs.length).flatMap (flowF s))) : firstF (chkL s) = ⟨0, 0, 0⟩ := by
 rw [chkL, firstF_off h, firstF_off' h1]
theorem chk_err {s : SrcL} (h : (firstF (checkL s)).err ≠ 0) : firstF (chkL s) = firstF (checkL s) := firstF_more (good_check s _) h
theorem good_chk (s : SrcL) : GoodF (checkL s) := good_check s _
end Go.Ab
namespace Go.Ab
open Go.Proofs
theorem fN_rng (x : SrcL) (f : Int) (nm : ByteArray) : 0 ≤ (fN x f nm).1 ∧ (fN x f nm).1 ≤ 5 := by
 unfold fN;split
 ·simp
 ·unfold gN;split
  ·simp
  ·split
   ·simp
   ·split
    ·simp
    ·split <;> simp
theorem bad_or {x : SrcL} {f : Int} {t : TermL} {a b : Int} (hp : fN x f t.name = (a, b)) (hk : t.kind = 2 ∨ t.kind = 3) : badT x f t = ((!((t.kind == 3) == (a == 3))) || (a == 4) || (a == 5) || (a == 0)) := by
 have hr := fN_rng x f t.name;rw [hp] at hr;have hr : 0 ≤ a ∧ a ≤ 5 := hr;have h6 : a = 0 ∨ a = 1 ∨ a = 2 ∨ a = 3 ∨ a = 4 ∨ a = 5 := by omega
 unfold badT;rw [hp];rcases hk with e | e <;> rw [e] <;> rcases h6 with rfl | rfl | rfl | rfl | rfl | rfl <;> rfl
theorem tmL_23 {x : SrcL} {f : Int} {t : TermL} {p : Int × Int} (hp : fN x f t.name = p) (hk : t.kind = 2 ∨ t.kind = 3) : tmL x f t = labN x f p := by rw [tmL, if_pos hk, hp]
theorem tmL_0 {x : SrcL} {f : Int} {t : TermL} (h2 : ¬ t.kind = 2) (h3 : ¬ t.kind = 3) : tmL x f t = 0 := if_neg (by omega)
theorem bad_0 {x : SrcL} {f : Int} {t : TermL} (h2 : ¬ t.kind = 2) (h3 : ¬ t.kind = 3) : badT x f t = false := decide_eq_false (by omega)
theorem join_two {a b : Nat} (ha : a < 2 ^ 64) (hb : b < 2 ^ 64) : joinL [(a : Int), (b : Int)] = ((a ||| b : Nat) : Int) := by
 show orI (orI 0 a) b = _
 have := orI_nat (a := 0) (by decide) ha;rw [Nat.zero_or] at this;rw [show (0 : Int) = ((0 : Nat) : Int) from rfl, this, orI_nat ha hb]
theorem exOk_fin {x : SrcL} {k : Nat} {ts : List TermL} (hk : k < x.funcs.length) (h : ∀ (i : Nat) (t : TermL), i < ts.length → ts[i]? = some t → badT x (k : Nat) t = false) : exOk x (k : Nat) ts = true :=
 exOk_all ⟨by omega, by omega⟩ fun i t ht => h i t (ges.1 ht).1 ht
theorem exN_ok {x : SrcL} {f : Int} {ts : List TermL} (h : exOk x f ts = true) : exN x f ts = exL x f ts := if_pos h
theorem exN_no {x : SrcL} {f : Int} {ts : List TermL} (h : exOk x f ts = false) : exN x f ts = 0 := by rw [exN, h]; rfl
theorem expr_ok {s : St} {c : List AV} {x : SrcL} {k : Nat} {y : FunL} {v : AV} {ts : List TermL} (hok : s.Ok) (hx : x.small) (hfi : x.fine) (hv : SrcP x c) (hy : x.funcs[k]? = some y) (htl : ts.length ≤ 2097152) (hvt : RowP 3 v (ts.map tC)) :
  CallS Try.prog Tt Kt 60 [.agg c, .int .i64 (k : Nat), v] s fun r s' => Keep [] s s' ∧ r = .tup [.int .u64 (exN x (k : Nat) ts : Nat), .bool (exOk x (k : Nat) ts)] := by
 have hz := hv.leaf;obtain ⟨vp, vg, va, vc, vf, rfl, hvp, hvg, hva, hvc, csf, hrf, hlf, hF⟩ := id hv;obtain ⟨hl1, hl2, hl3, hl4, hl5, hsm⟩ := id hx;have hsf : vf.slen = some x.funcs.length := by rw [hrf.slen, hlf]
 have hkl := (ges.1 hy).1;have hsv : v.slen = some ts.length := by rw [hvt.slen, lmm]
 refine cof 74 Try.func60 ?_;refine aq0 ?_;have hS := SH.start hok;refine aq0 ?_;refine ws_box hS rfl rfl rfl hz ?_;rintro p0 z hS hk;have hS : SH _ [_] z _ := hS;have hK := hS.K;refine aq5 ?_;refine w_split (i := 14) rfl (fun h14 => ?_) (fun h14 => ?_)
 ·simp only [dtt] at h14
  exfalso; omega
 simp only [dff] at h14;refine aq2 ?_;refine wvz (v := vf) (oL 0 hS) ?_;refine wvz (oN hsf) ?_;refine aq2 ?_;refine wc_condT rfl (fun h20 => ?_) (fun h20 => ?_)
 ·simp only [dtt, ge_iff_le] at h20
  exfalso; omega
 simp only [dff, ge_iff_le] at h20;refine aq1 ?_;refine wvz (oN hsv) ?_;refine aq1 ?_;refine wc_loop_at (fun jj m z => ∃ i : Nat, jj = ts.length - i ∧ i ≤ ts.length ∧ m = [(1, .int .i64 (k : Nat)), (3, .ptr p0 0 0), (6, .int .u64 (exL x (k : Nat) (ts.take i) : Nat)), (21, v), (22, .int .i64 (ts.length : Nat)), (23, .int .i64 (i : Nat))] ∧ SH s [ptC (.ptr p0 0 0) [vp, vg, va, vc, vf]] z ∧ ∀ (j : Nat) (t : TermL), j < i → ts[j]? = some t → badT x (k : Nat) t = false) ts.length
  [(1, .int .i64 (k : Nat)), (3, .ptr p0 0 0), (6, .int .u64 (exL x (k : Nat) (ts.take 0) : Nat)), (21, v), (22, .int .i64 (ts.length : Nat)), (23, .int .i64 ((0 : Nat) : Int))] (scn rfl (scn rfl (scn rfl (scn rfl (scn rfl (scn rfl (Sub.nil _))))))) ⟨0, by simp, by simp, rfl, hS, fun j t h => by omega⟩ ?_
 clear hS hK;rintro jj m z ⟨i, rfl, hi, rfl, hS, hB⟩;have hK := hS.K;refine aq1 ?_;refine wcd (fun h24 => ?_) (fun h24 => ?_)
 ·refine aq0 ?_;obtain ⟨t, ht⟩ : ∃ t, ts[i]? = some t := ⟨_, gee (by omega)⟩;refine aq0 ?_;refine wvz (oJ (RowP.up hvt _)) ?_;refine wvz (v := .agg (tC t)) (oM (Row.mk_pt (RowP.up hvt z.h) ht)) ?_;refine ws_alloc hS rfl rfl rfl rfl ?_;rintro p9 z hS hk;have hS : SH _ [_, _] z _ := hS;refine ws_store 1 hS rfl rfl rfl rfl rfl rfl (by rfl) (nl rfl) ?_;rintro z hS;have hS : SH _ [_, _] z _ := hS;have hK := hS.K;refine aq0 ?_;have hS : SH s [ptC (.ptr p0 0 0) [vp, vg, va, vc, vf], ptC (.ptr p9 0 0) (tC t)] z := hS;refine aq1 ?_;refine wvz (oL 1 hS) ?_;refine aq2 ?_;refine w_split (i := 30) rfl (fun h30 => ?_) (fun h30 => ?_)
  ·simp only [ne_eq, bne_iff_ne] at h30;refine aq1 ?_;refine wvz (oL 1 hS) ?_;refine aq2 ?_;refine wc_condT rfl (fun h34 => ?_) (fun h34 => ?_)
   ·simp only [ne_eq, bne_iff_ne] at h34;refine aq0 ?_;refine wad ?_;refine aq1 ?_;have hS : SH s [ptC (.ptr p0 0 0) [vp, vg, va, vc, vf]] z := hS.sub (.cons_cons _ (.cons _ (.refl _)));exact rn ⟨i + 1, rfl, by omega, by rw [show exL x (k : Nat) (ts.take (i + 1)) = exL x (k : Nat) (ts.take i) by rw [exL_snoc ht, tmL_0 h30 h34, Nat.or_zero]], hS, fun j t1 hj h1 => (lsl.1 hj).elim (fun h => hB j t1 h h1) fun e => by rw [e, ht] at h1; cases h1; exact bad_0 h30 h34⟩
   simp only [bne_eq_false_iff_eq] at h34;refine aq0 ?_;obtain ⟨⟨a, b⟩, hp⟩ : ∃ p, fN x (k : Nat) t.name = p := ⟨_, rfl⟩;have hcall : ∀ {s' : St}, s'.Ok → CallS Try.prog Tt Kt 65 [.agg [vp, vg, va, vc, vf], .int .i64 (k : Nat), .str t.name] s' fun r z' => Keep [] s' z' ∧ r = .tup [.agg [.int .i64 a, .int .i64 b], .bool (a != 0)] := fun ho => (find_ok ho hx hv).mono fun r z' h => ⟨h.1, by rw [h.2, hp]; rfl⟩;refine aq0 ?_;refine wvz (v := .agg [vp, vg, va, vc, vf]) (oL 0 hS) ?_;refine aq2 ?_;refine wvz (oL 1 hS) ?_;refine wkz (hcall hS.ok) ?_;rintro _ z ⟨hk, rfl⟩;have hS := hS.mov hk;refine aq3 ?_;refine ws_alloc hS rfl rfl rfl rfl ?_;rintro p10 z hS hk;have hS : SH _ [_, _, _] z _ := hS;refine ws_store 2 hS rfl rfl rfl rfl rfl rfl (by rfl) (nl rfl) ?_;rintro z hS;have hS : SH _ [_, _, _] z _ := hS;have hK := hS.K;refine aq1 ?_;have hS : SH s [ptC (.ptr p0 0 0) [vp, vg, va, vc, vf], ptC (.ptr p9 0 0) (tC t), ptC (.ptr p10 0 0) [.int .i64 a, .int .i64 b]] z := hS;refine aq0 ?_
   first
   | (have hk23 : t.kind = 2 ∨ t.kind = 3 := .inr h34)
   | (have hk23 : t.kind = 2 ∨ t.kind = 3 := .inl h30)
   refine aq1 ?_;refine wvz (oL 1 hS) ?_;refine aq2 ?_;refine wvz (oL 2 hS) ?_;refine aq3 ?_;refine w_split (i := 50) rfl (fun h50 => ?_) (fun h50 => ?_)
   ·refine aq12 ?_;refine aq2 ?_;refine wc_cond_t rfl ?_;refine aq2 ?_;have hbt : badT x (k : Nat) t = true := by
     rw [bad_or hp hk23, h50]
     first
     | rfl
     | (rw [h55]; rfl)
     | (rw [h55, h60]; rfl)
     | (rw [h55, h60, h64]; rfl)
    exact ⟨_, rfl, hK, by rw [exN_no (exOk_no ht hbt), exOk_no ht hbt]; rfl⟩
   refine aq1 ?_;refine wvz (oL 2 hS) ?_;refine aq3 ?_;refine w_split (i := 55) rfl (fun h55 => ?_) (fun h55 => ?_)
   ·refine aq9 ?_;refine wc_cond_t rfl ?_;refine aq2 ?_;have hbt : badT x (k : Nat) t = true := by
     rw [bad_or hp hk23, h50]
     first
     | rfl
     | (rw [h55]; rfl)
     | (rw [h55, h60]; rfl)
     | (rw [h55, h60, h64]; rfl)
    exact ⟨_, rfl, hK, by rw [exN_no (exOk_no ht hbt), exOk_no ht hbt]; rfl⟩
   refine aq1 ?_;refine wvz (oL 2 hS) ?_;refine aq3 ?_;refine w_split (i := 60) rfl (fun h60 => ?_) (fun h60 => ?_)
   ·refine aq4 ?_;refine wc_cond_t rfl ?_;refine aq2 ?_;have hbt : badT x (k : Nat) t = true := by
     rw [bad_or hp hk23, h50]
     first
     | rfl
     | (rw [h55]; rfl)
     | (rw [h55, h60]; rfl)
     | (rw [h55, h60, h64]; rfl)
    exact ⟨_, rfl, hK, by rw [exN_no (exOk_no ht hbt), exOk_no ht hbt]; rfl⟩
   refine aq1 ?_;refine wvz (oL 2 hS) ?_;refine aq2 ?_;refine wc_condT rfl (fun h64 => ?_) (fun h64 => ?_)
   ·refine aq2 ?_;have hbt : badT x (k : Nat) t = true := by
     rw [bad_or hp hk23, h50]
     first
     | rfl
     | (rw [h55]; rfl)
     | (rw [h55, h60]; rfl)
     | (rw [h55, h60, h64]; rfl)
    exact ⟨_, rfl, hK, by rw [exN_no (exOk_no ht hbt), exOk_no ht hbt]; rfl⟩
   refine aq1 ?_;refine wvz (v := .agg [vp, vg, va, vc, vf]) (oL 0 hS) ?_;refine aq1 ?_;refine wvz (v := .agg [.int .i64 a, .int .i64 b]) (oL 2 hS) ?_;refine wkz (of_ok hS.ok hx hfi hv hy hp) ?_;rintro _ z ⟨hk, rfl⟩;have hS := hS.mov hk;refine w_litT (c := [.int .u64 (exL x (k : Nat) (ts.take i) : Nat), .int .u64 (labN x (k : Nat) (a, b) : Nat)]) [[.int .u64 (exL x (k : Nat) (ts.take i) : Nat)], [.int .u64 (labN x (k : Nat) (a, b) : Nat)]] hS rfl rfl rfl rfl rfl rfl rfl (by decide) (by decide) rfl rfl rfl (by intro c hc; simp only [List.mem_cons, nmn, or_false] at hc; rcases hc with rfl | rfl <;> exact ⟨rfl, rfl⟩) rfl ?_;rintro lv r z hr hS;have hS : SH _ [_, _, _] z := hS;refine w_call rfl rfl (op_call rfl rfl rfl rfl) (join_ok (ls := [(exL x (k : Nat) (ts.take i) : Nat), (labN x (k : Nat) (a, b) : Nat)]) hS.ok (by simp) hr) ?_;rintro _ z ⟨hk, rfl⟩;have hS := hS.mov hk;refine aq1 ?_;refine wad ?_;refine aq1 ?_;have e6 : ((exL x (k : Nat) (ts.take (i + 1)) : Nat) : Int) = joinL [((exL x (k : Nat) (ts.take i) : Nat) : Int), ((labN x (k : Nat) (a, b) : Nat) : Int)] := by rw [exL_snoc ht, tmL_23 hp hk23, join_two (exL_64 hfi _ _) (labN_64 hfi _ _)]
   have hS : SH s [ptC (.ptr p0 0 0) [vp, vg, va, vc, vf]] z := hS.sub (.cons_cons _ (.cons _ (.cons _ (.refl _))));exact rn ⟨i + 1, rfl, by omega, by rw [e6], hS, fun j t1 hj h1 => (lsl.1 hj).elim (fun h => hB j t1 h h1) fun e => by rw [e, ht] at h1; cases h1; exact (by rw [bad_or hp hk23, h50, h55, h60, h64]; rfl)⟩
  simp only [bne_eq_false_iff_eq] at h30;refine aq4 ?_;refine wc_cond_f rfl ?_;refine aq0 ?_;obtain ⟨⟨a, b⟩, hp⟩ : ∃ p, fN x (k : Nat) t.name = p := ⟨_, rfl⟩;have hcall : ∀ {s' : St}, s'.Ok → CallS Try.prog Tt Kt 65 [.agg [vp, vg, va, vc, vf], .int .i64 (k : Nat), .str t.name] s' fun r z' => Keep [] s' z' ∧ r = .tup [.agg [.int .i64 a, .int .i64 b], .bool (a != 0)] := fun ho => (find_ok ho hx hv).mono fun r z' h => ⟨h.1, by rw [h.2, hp]; rfl⟩;refine aq0 ?_;refine wvz (v := .agg [vp, vg, va, vc, vf]) (oL 0 hS) ?_;refine aq2 ?_;refine wvz (oL 1 hS) ?_;refine wkz (hcall hS.ok) ?_;rintro _ z ⟨hk, rfl⟩;have hS := hS.mov hk;refine aq3 ?_;refine ws_alloc hS rfl rfl rfl rfl ?_;rintro p10 z hS hk;have hS : SH _ [_, _, _] z _ := hS;refine ws_store 2 hS rfl rfl rfl rfl rfl rfl (by rfl) (nl rfl) ?_;rintro z hS;have hS : SH _ [_, _, _] z _ := hS;have hK := hS.K;refine aq1 ?_;have hS : SH s [ptC (.ptr p0 0 0) [vp, vg, va, vc, vf], ptC (.ptr p9 0 0) (tC t), ptC (.ptr p10 0 0) [.int .i64 a, .int .i64 b]] z := hS;refine aq0 ?_
  first
  | (have hk23 : t.kind = 2 ∨ t.kind = 3 := .inr h34)
  | (have hk23 : t.kind = 2 ∨ t.kind = 3 := .inl h30)
  refine aq1 ?_;refine wvz (oL 1 hS) ?_;refine aq2 ?_;refine wvz (oL 2 hS) ?_;refine aq3 ?_;refine w_split (i := 50) rfl (fun h50 => ?_) (fun h50 => ?_)
  ·refine aq12 ?_;refine aq2 ?_;refine wc_cond_t rfl ?_;refine aq2 ?_;have hbt : badT x (k : Nat) t = true := by
    rw [bad_or hp hk23, h50]
    first
    | rfl
    | (rw [h55]; rfl)
    | (rw [h55, h60]; rfl)
    | (rw [h55, h60, h64]; rfl)
   exact ⟨_, rfl, hK, by rw [exN_no (exOk_no ht hbt), exOk_no ht hbt]; rfl⟩
  refine aq1 ?_;refine wvz (oL 2 hS) ?_;refine aq3 ?_;refine w_split (i := 55) rfl (fun h55 => ?_) (fun h55 => ?_)
  ·refine aq9 ?_;refine wc_cond_t rfl ?_;refine aq2 ?_;have hbt : badT x (k : Nat) t = true := by
    rw [bad_or hp hk23, h50]
    first
    | rfl
    | (rw [h55]; rfl)
    | (rw [h55, h60]; rfl)
    | (rw [h55, h60, h64]; rfl)
   exact ⟨_, rfl, hK, by rw [exN_no (exOk_no ht hbt), exOk_no ht hbt]; rfl⟩
  refine aq1 ?_;refine wvz (oL 2 hS) ?_;refine aq3 ?_;refine w_split (i := 60) rfl (fun h60 => ?_) (fun h60 => ?_)
  ·refine aq4 ?_;refine wc_cond_t rfl ?_;refine aq2 ?_;have hbt : badT x (k : Nat) t = true := by
    rw [bad_or hp hk23, h50]
    first
    | rfl
    | (rw [h55]; rfl)
    | (rw [h55, h60]; rfl)
    | (rw [h55, h60, h64]; rfl)
   exact ⟨_, rfl, hK, by rw [exN_no (exOk_no ht hbt), exOk_no ht hbt]; rfl⟩
  refine aq1 ?_;refine wvz (oL 2 hS) ?_;refine aq2 ?_;refine wc_condT rfl (fun h64 => ?_) (fun h64 => ?_)
  ·refine aq2 ?_;have hbt : badT x (k : Nat) t = true := by
    rw [bad_or hp hk23, h50]
    first
    | rfl
    | (rw [h55]; rfl)
    | (rw [h55, h60]; rfl)
    | (rw [h55, h60, h64]; rfl)
   exact ⟨_, rfl, hK, by rw [exN_no (exOk_no ht hbt), exOk_no ht hbt]; rfl⟩
  refine aq1 ?_;refine wvz (v := .agg [vp, vg, va, vc, vf]) (oL 0 hS) ?_;refine aq1 ?_;refine wvz (v := .agg [.int .i64 a, .int .i64 b]) (oL 2 hS) ?_;refine wkz (of_ok hS.ok hx hfi hv hy hp) ?_;rintro _ z ⟨hk, rfl⟩;have hS := hS.mov hk;refine w_litT (c := [.int .u64 (exL x (k : Nat) (ts.take i) : Nat), .int .u64 (labN x (k : Nat) (a, b) : Nat)]) [[.int .u64 (exL x (k : Nat) (ts.take i) : Nat)], [.int .u64 (labN x (k : Nat) (a, b) : Nat)]] hS rfl rfl rfl rfl rfl rfl rfl (by decide) (by decide) rfl rfl rfl (by intro c hc; simp only [List.mem_cons, nmn, or_false] at hc; rcases hc with rfl | rfl <;> exact ⟨rfl, rfl⟩) rfl ?_;rintro lv r z hr hS;have hS : SH _ [_, _, _] z := hS;refine w_call rfl rfl (op_call rfl rfl rfl rfl) (join_ok (ls := [(exL x (k : Nat) (ts.take i) : Nat), (labN x (k : Nat) (a, b) : Nat)]) hS.ok (by simp) hr) ?_;rintro _ z ⟨hk, rfl⟩;have hS := hS.mov hk;refine aq1 ?_;refine wad ?_;refine aq1 ?_;have e6 : ((exL x (k : Nat) (ts.take (i + 1)) : Nat) : Int) = joinL [((exL x (k : Nat) (ts.take i) : Nat) : Int), ((labN x (k : Nat) (a, b) : Nat) : Int)] := by rw [exL_snoc ht, tmL_23 hp hk23, join_two (exL_64 hfi _ _) (labN_64 hfi _ _)]
  have hS : SH s [ptC (.ptr p0 0 0) [vp, vg, va, vc, vf]] z := hS.sub (.cons_cons _ (.cons _ (.cons _ (.refl _))));exact rn ⟨i + 1, rfl, by omega, by rw [e6], hS, fun j t1 hj h1 => (lsl.1 hj).elim (fun h => hB j t1 h h1) fun e => by rw [e, ht] at h1; cases h1; exact (by rw [bad_or hp hk23, h50, h55, h60, h64]; rfl)⟩
 obtain rfl : i = ts.length := by omega
 refine aq3 ?_;exact ⟨_, rfl, hK, by rw [exN_ok (exOk_fin hkl hB), exOk_fin hkl hB, List.take_length]; rfl⟩
end Go.Ab
namespace Go.Ab
open Go.Proofs
theorem bad_iff {x : SrcL} {f : Int} {t : TermL} {a b : Int} (hp : fN x f t.name = (a, b)) : badT x f t = decide ((t.kind = 2 ∧ a ≠ 1 ∧ a ≠ 2) ∨ (t.kind = 3 ∧ a ≠ 3)) := by
 rw [badT, hp]
theorem expr_ref_ok {s : St} {c : List AV} {x : SrcL} {k : Nat} {y : FunL} {v : AV} {ts : List TermL} (hok : s.Ok) (hx : x.small) (hfi : x.fine) (hv : SrcP x c) (hy : x.funcs[k]? = some y) (htl : ts.length ≤ 2097152) (hvt : RowP 3 v (ts.map tC)) :
  CallS Try.prog Tt Kt 72 [.agg c, .int .i64 (k : Nat), v] s fun r s' => Keep [] s s' ∧ r = .tup [.int .u64 (exN x (k : Nat) ts : Nat), .bool (exOk x (k : Nat) ts)] := by
 have hz := hv.leaf;obtain ⟨vp, vg, va, vc, vf, rfl, hvp, hvg, hva, hvc, csf, hrf, hlf, hF⟩ := id hv;obtain ⟨hl1, hl2, hl3, hl4, hl5, hsm⟩ := id hx;have hsf : vf.slen = some x.funcs.length := by rw [hrf.slen, hlf]
 have hkl := (ges.1 hy).1;have hsv : v.slen = some ts.length := by rw [hvt.slen, lmm]
 refine cof 95 Try.func72 ?_;refine aq0 ?_;have hS := SH.start hok;refine aq0 ?_;refine ws_box hS rfl rfl rfl hz ?_;rintro p0 z hS hk;have hS : SH _ [_] z _ := hS;have hK := hS.K;refine aq5 ?_;refine w_split (i := 16) rfl (fun h16 => ?_) (fun h16 => ?_)
 ·simp only [dtt] at h16
  exfalso; omega
 simp only [dff] at h16;refine aq2 ?_;refine wvz (v := vf) (oL 0 hS) ?_;refine wvz (oN hsf) ?_;refine aq2 ?_;refine wc_condT rfl (fun h22 => ?_) (fun h22 => ?_)
 ·simp only [dtt, ge_iff_le] at h22
  exfalso; omega
 simp only [dff, ge_iff_le] at h22;refine aq2 ?_;refine wc_loop_at (fun jj m z => ∃ i : Nat, jj = ts.length - i ∧ i ≤ ts.length ∧ m = [(1, .int .i64 (k : Nat)), (2, v), (3, .ptr p0 0 0), (8, .int .u64 (exL x (k : Nat) (ts.take i) : Nat)), (9, .int .i64 (i : Nat))] ∧ SH s [ptC (.ptr p0 0 0) [vp, vg, va, vc, vf]] z ∧ ∀ (j : Nat) (t : TermL), j < i → ts[j]? = some t → badT x (k : Nat) t = false) ts.length
  [(1, .int .i64 (k : Nat)), (2, v), (3, .ptr p0 0 0), (8, .int .u64 (exL x (k : Nat) (ts.take 0) : Nat)), (9, .int .i64 ((0 : Nat) : Int))] (scn rfl (scn rfl (scn rfl (scn rfl (scn rfl (Sub.nil _)))))) ⟨0, by simp, by simp, rfl, hS, fun j t h => by omega⟩ ?_
 clear hS hK;rintro jj m z ⟨i, rfl, hi, rfl, hS, hB⟩;have hK := hS.K;refine aq2 ?_;refine wvz (oN hsv) ?_;refine aq1 ?_;refine wcd (fun h26 => ?_) (fun h26 => ?_)
 ·refine aq0 ?_;obtain ⟨t, ht⟩ : ∃ t, ts[i]? = some t := ⟨_, gee (by omega)⟩;obtain ⟨⟨a, b⟩, hp⟩ : ∃ p, fN x (k : Nat) t.name = p := ⟨_, rfl⟩;have hcall : ∀ {s' : St}, s'.Ok → CallS Try.prog Tt Kt 75 [.agg [vp, vg, va, vc, vf], .int .i64 (k : Nat), .str t.name] s' fun r z' => Keep [] s' z' ∧ r = .tup [.int .i64 a, .int .i64 b] := fun ho => (find_ref_ok ho hx hv).mono fun r z' h => ⟨h.1, by rw [h.2, hp]⟩;have hR := Keep.refl (s := z) (hK.ok);refine wc_draw (Old z []) (by kernel_rfl) rfl ?_;refine wol hR (v := .agg [vp, vg, va, vc, vf]) ((hS.pt 0 rfl).at (o := 0) (Nat.zero_le _)) (fun _ _ h => by cases h) ?_;refine aq3 ?_;refine wov (oJ (RowP.up hvt _)) ?_;refine wov (oF (Row.mk_pt (RowP.up hvt _) ht)) ?_;refine wol hR (v := .str t.name) (Pt.fld (Row.mk_pt (RowP.up hvt _) ht) _ (nl rfl)) (no_gs (fld_gs (RowP.egs hvt _))) ?_;refine woc hR (hcall hR.ok) ?_;rintro _ sQ ⟨-, rfl⟩ hR;refine aq4 ?_;refine wov (op_pure rfl) ?_;refine wd_nil ?_;have hS := hS.mov hR;generalize St.mk sQ.ctr z.h sQ.wr = z at hS ⊢;have hK := hS.K;refine then_n ?_
  repeat refine wc_seq ?_
  refine wc_cut (fun m z => ∃ bb, Sub [(1, .int .i64 (k : Nat)), (2, v), (3, .ptr p0 0 0), (8, .int .u64 (exL x (k : Nat) (ts.take i) : Nat)), (9, .int .i64 (i : Nat)), (65, .bool bb)] m ∧ bb = badT x (k : Nat) t ∧ SH s [ptC (.ptr p0 0 0) [vp, vg, va, vc, vf]] z) ?_ ?_
  ·refine aq2 ?_;refine wvz (oJ (RowP.up hvt _)) ?_;refine wvz (oF (Row.mk_pt (RowP.up hvt _) ht)) ?_;refine wvz (v := .int .i64 t.kind) (oM (Pt.fld (Row.mk_pt (RowP.up hvt _) ht) _ (nl rfl))) ?_;refine aq2 ?_;refine w_split (i := 46) rfl (fun h46 => ?_) (fun h46 => ?_)
   ·simp only [beq_iff_eq] at h46;refine aq4 ?_;refine w_split (i := 50) rfl (fun h50 => ?_) (fun h50 => ?_)
    ·simp only [ne_eq, bne_iff_ne] at h50;refine aq4 ?_;refine w_split (i := 54) rfl (fun h54 => ?_) (fun h54 => ?_)
     ·simp only [ne_eq, bne_iff_ne] at h54;refine aq11 ?_;refine cut_n ?_;exact ⟨_, (scn rfl (scn rfl (scn rfl (scn rfl (scn rfl (scn rfl (Sub.nil _))))))), by
        rw [bad_iff hp]
        first
        | exact (decide_eq_true (by omega)).symm
        | exact (decide_eq_false (by omega)).symm
        | (rw [Bool.eq_iff_iff, decide_eq_true_iff, bne_iff_ne]; omega), hS⟩
     simp only [bne_eq_false_iff_eq] at h54;refine aq2 ?_;refine wvz (oJ (RowP.up hvt _)) ?_;refine wvz (oF (Row.mk_pt (RowP.up hvt _) ht)) ?_;refine wvz (v := .int .i64 t.kind) (oM (Pt.fld (Row.mk_pt (RowP.up hvt _) ht) _ (nl rfl))) ?_;refine aq2 ?_;refine w_split (i := 61) rfl (fun h61 => ?_) (fun h61 => ?_)
     ·simp only [beq_iff_eq] at h61;refine aq4 ?_;refine cut_n ?_;exact ⟨_, (scn rfl (scn rfl (scn rfl (scn rfl (scn rfl (scn rfl (Sub.nil _))))))), by
        rw [bad_iff hp]
        first
        | exact (decide_eq_true (by omega)).symm
        | exact (decide_eq_false (by omega)).symm
        | (rw [Bool.eq_iff_iff, decide_eq_true_iff, bne_iff_ne]; omega), hS⟩
     simp only [bff, ne_eq] at h61;refine aq4 ?_;refine cut_n ?_;exact ⟨_, (scn rfl (scn rfl (scn rfl (scn rfl (scn rfl (scn rfl (Sub.nil _))))))), by
       rw [bad_iff hp]
       first
       | exact (decide_eq_true (by omega)).symm
       | exact (decide_eq_false (by omega)).symm
       | (rw [Bool.eq_iff_iff, decide_eq_true_iff, bne_iff_ne]; omega), hS⟩
    simp only [bne_eq_false_iff_eq] at h50;refine aq6 ?_;refine wvz (oJ (RowP.up hvt _)) ?_;refine wvz (oF (Row.mk_pt (RowP.up hvt _) ht)) ?_;refine wvz (v := .int .i64 t.kind) (oM (Pt.fld (Row.mk_pt (RowP.up hvt _) ht) _ (nl rfl))) ?_;refine aq2 ?_;refine w_split (i := 61) rfl (fun h61 => ?_) (fun h61 => ?_)
    ·simp only [beq_iff_eq] at h61;refine aq4 ?_;refine cut_n ?_;exact ⟨_, (scn rfl (scn rfl (scn rfl (scn rfl (scn rfl (scn rfl (Sub.nil _))))))), by
       rw [bad_iff hp]
       first
       | exact (decide_eq_true (by omega)).symm
       | exact (decide_eq_false (by omega)).symm
       | (rw [Bool.eq_iff_iff, decide_eq_true_iff, bne_iff_ne]; omega), hS⟩
    simp only [bff, ne_eq] at h61;refine aq4 ?_;refine cut_n ?_;exact ⟨_, (scn rfl (scn rfl (scn rfl (scn rfl (scn rfl (scn rfl (Sub.nil _))))))), by
      rw [bad_iff hp]
      first
      | exact (decide_eq_true (by omega)).symm
      | exact (decide_eq_false (by omega)).symm
      | (rw [Bool.eq_iff_iff, decide_eq_true_iff, bne_iff_ne]; omega), hS⟩
   simp only [bff, ne_eq] at h46;refine aq10 ?_;refine wvz (oJ (RowP.up hvt _)) ?_;refine wvz (oF (Row.mk_pt (RowP.up hvt _) ht)) ?_;refine wvz (v := .int .i64 t.kind) (oM (Pt.fld (Row.mk_pt (RowP.up hvt _) ht) _ (nl rfl))) ?_;refine aq2 ?_;refine w_split (i := 61) rfl (fun h61 => ?_) (fun h61 => ?_)
   ·simp only [beq_iff_eq] at h61;refine aq4 ?_;refine cut_n ?_;exact ⟨_, (scn rfl (scn rfl (scn rfl (scn rfl (scn rfl (scn rfl (Sub.nil _))))))), by
      rw [bad_iff hp]
      first
      | exact (decide_eq_true (by omega)).symm
      | exact (decide_eq_false (by omega)).symm
      | (rw [Bool.eq_iff_iff, decide_eq_true_iff, bne_iff_ne]; omega), hS⟩
   simp only [bff, ne_eq] at h61;refine aq4 ?_;refine cut_n ?_;exact ⟨_, (scn rfl (scn rfl (scn rfl (scn rfl (scn rfl (scn rfl (Sub.nil _))))))), by
     rw [bad_iff hp]
     first
     | exact (decide_eq_true (by omega)).symm
     | exact (decide_eq_false (by omega)).symm
     | (rw [Bool.eq_iff_iff, decide_eq_true_iff, bne_iff_ne]; omega), hS⟩
  clear hS hK;rintro m z ⟨bb, hm, hbb, hS⟩;have hK := hS.K;refine then_n ?_;refine wc_sub hm ?_;refine aq0 ?_;refine wc_condT rfl (fun h65 => ?_) (fun h65 => ?_)
  ·subst hbb;refine aq2 ?_;exact ⟨_, rfl, hK, by rw [exN_no (exOk_no ht h65), exOk_no ht h65]; rfl⟩
  subst hbb;refine aq2 ?_;refine wvz (oJ (RowP.up hvt _)) ?_;refine wvz (oF (Row.mk_pt (RowP.up hvt _) ht)) ?_;refine wvz (v := .int .i64 t.kind) (oM (Pt.fld (Row.mk_pt (RowP.up hvt _) ht) _ (nl rfl))) ?_;refine aq2 ?_;refine w_split (i := 72) rfl (fun h72 => ?_) (fun h72 => ?_)
  ·simp only [beq_iff_eq] at h72;refine aq7 ?_;refine wc_cond_t rfl ?_;refine aq0 ?_;have hR := Keep.refl (s := z) (hK.ok);refine wc_draw (Old z []) (by kernel_rfl) rfl ?_;refine wol hR (v := .agg [vp, vg, va, vc, vf]) ((hS.pt 0 rfl).at (o := 0) (Nat.zero_le _)) (fun _ _ h => by cases h) ?_;refine aq3 ?_;refine wov (oJ (RowP.up hvt _)) ?_;refine wov (oF (Row.mk_pt (RowP.up hvt _) ht)) ?_;refine wol hR (v := .str t.name) (Pt.fld (Row.mk_pt (RowP.up hvt _) ht) _ (nl rfl)) (no_gs (fld_gs (RowP.egs hvt _))) ?_;refine wo_call0 hR rfl rfl (fun _ => rfl) (op_call rfl rfl rfl rfl) (label_ref_ok hR.ok hx hfi hv hy) (fun _ _ h => h.1) (by rintro _ _ ⟨-, _, rfl⟩; rfl) ?_;rintro _ sQ ⟨-, b2, rfl⟩ hR;refine aq5 ?_;have hS := hS.mov hR;generalize St.mk sQ.ctr z.h sQ.wr = z at hS ⊢;refine aq2 ?_;refine wvz (v := .int .u64 (orI (exL x (k : Nat) (ts.take i) : Nat) (labN x (k : Nat) (fN x (k : Nat) t.name) : Nat))) (op_bin rfl rfl rfl) ?_;refine aq2 ?_;refine wad ?_;refine aq1 ?_
   first
   | (have hk23 : t.kind = 2 ∨ t.kind = 3 := by omega
      have e6 : ((exL x (k : Nat) (ts.take (i + 1)) : Nat) : Int) = orI (exL x (k : Nat) (ts.take i) : Nat) (labN x (k : Nat) (fN x (k : Nat) t.name) : Nat) := by rw [exL_snoc ht, tmL_23 rfl hk23, orI_nat (exL_64 hfi _ _) (labN_64 hfi _ _)]
      exact rn ⟨i + 1, rfl, by omega, by rw [e6], hS, fun j t1 hj h1 => (lsl.1 hj).elim (fun h => hB j t1 h h1) fun e => by rw [e, ht] at h1; cases h1; exact h65⟩)
   | (have e6 : exL x (k : Nat) (ts.take (i + 1)) = exL x (k : Nat) (ts.take i) := by rw [exL_snoc ht, tmL_0 (by omega) (by omega), Nat.or_zero]
      exact rn ⟨i + 1, rfl, by omega, by rw [e6], hS, fun j t1 hj h1 => (lsl.1 hj).elim (fun h => hB j t1 h h1) fun e => by rw [e, ht] at h1; cases h1; exact h65⟩)
  simp only [bff, ne_eq] at h72;refine aq2 ?_;refine wvz (oJ (RowP.up hvt _)) ?_;refine wvz (oF (Row.mk_pt (RowP.up hvt _) ht)) ?_;refine wvz (v := .int .i64 t.kind) (oM (Pt.fld (Row.mk_pt (RowP.up hvt _) ht) _ (nl rfl))) ?_;refine aq2 ?_;refine wcb (fun h79 => ?_) (fun h79 => ?_)
  ·refine aq0 ?_;have hR := Keep.refl (s := z) (hK.ok);refine wc_draw (Old z []) (by kernel_rfl) rfl ?_;refine wol hR (v := .agg [vp, vg, va, vc, vf]) ((hS.pt 0 rfl).at (o := 0) (Nat.zero_le _)) (fun _ _ h => by cases h) ?_;refine aq3 ?_;refine wov (oJ (RowP.up hvt _)) ?_;refine wov (oF (Row.mk_pt (RowP.up hvt _) ht)) ?_;refine wol hR (v := .str t.name) (Pt.fld (Row.mk_pt (RowP.up hvt _) ht) _ (nl rfl)) (no_gs (fld_gs (RowP.egs hvt _))) ?_;refine wo_call0 hR rfl rfl (fun _ => rfl) (op_call rfl rfl rfl rfl) (label_ref_ok hR.ok hx hfi hv hy) (fun _ _ h => h.1) (by rintro _ _ ⟨-, _, rfl⟩; rfl) ?_;rintro _ sQ ⟨-, b2, rfl⟩ hR;refine aq5 ?_;have hS := hS.mov hR;generalize St.mk sQ.ctr z.h sQ.wr = z at hS ⊢;refine aq2 ?_;refine wvz (v := .int .u64 (orI (exL x (k : Nat) (ts.take i) : Nat) (labN x (k : Nat) (fN x (k : Nat) t.name) : Nat))) (op_bin rfl rfl rfl) ?_;refine aq2 ?_;refine wad ?_;refine aq1 ?_
   first
   | (have hk23 : t.kind = 2 ∨ t.kind = 3 := by omega
      have e6 : ((exL x (k : Nat) (ts.take (i + 1)) : Nat) : Int) = orI (exL x (k : Nat) (ts.take i) : Nat) (labN x (k : Nat) (fN x (k : Nat) t.name) : Nat) := by rw [exL_snoc ht, tmL_23 rfl hk23, orI_nat (exL_64 hfi _ _) (labN_64 hfi _ _)]
      exact rn ⟨i + 1, rfl, by omega, by rw [e6], hS, fun j t1 hj h1 => (lsl.1 hj).elim (fun h => hB j t1 h h1) fun e => by rw [e, ht] at h1; cases h1; exact h65⟩)
   | (have e6 : exL x (k : Nat) (ts.take (i + 1)) = exL x (k : Nat) (ts.take i) := by rw [exL_snoc ht, tmL_0 (by omega) (by omega), Nat.or_zero]
      exact rn ⟨i + 1, rfl, by omega, by rw [e6], hS, fun j t1 hj h1 => (lsl.1 hj).elim (fun h => hB j t1 h h1) fun e => by rw [e, ht] at h1; cases h1; exact h65⟩)
  refine aq1 ?_;refine wad ?_;refine aq1 ?_
  first
  | (have hk23 : t.kind = 2 ∨ t.kind = 3 := by omega
     have e6 : ((exL x (k : Nat) (ts.take (i + 1)) : Nat) : Int) = orI (exL x (k : Nat) (ts.take i) : Nat) (labN x (k : Nat) (fN x (k : Nat) t.name) : Nat) := by rw [exL_snoc ht, tmL_23 rfl hk23, orI_nat (exL_64 hfi _ _) (labN_64 hfi _ _)]
     exact rn ⟨i + 1, rfl, by omega, by rw [e6], hS, fun j t1 hj h1 => (lsl.1 hj).elim (fun h => hB j t1 h h1) fun e => by rw [e, ht] at h1; cases h1; exact h65⟩)
  | (have e6 : exL x (k : Nat) (ts.take (i + 1)) = exL x (k : Nat) (ts.take i) := by rw [exL_snoc ht, tmL_0 (by omega) (by omega), Nat.or_zero]
     exact rn ⟨i + 1, rfl, by omega, by rw [e6], hS, fun j t1 hj h1 => (lsl.1 hj).elim (fun h => hB j t1 h h1) fun e => by rw [e, ht] at h1; cases h1; exact h65⟩)
 obtain rfl : i = ts.length := by omega
 refine aq3 ?_;exact ⟨_, rfl, hK, by rw [exN_ok (exOk_fin hkl hB), exOk_fin hkl hB, List.take_length]; rfl⟩
end Go.Ab
namespace Go.Ab
open Go.Proofs
section
variable {P : Program} {T : Tab} {K : Kn} {nt : NT} {ops : Array Oper} {rest : List Oper} {m : Sy} {z s0 s : St} {Q : Sy → St → Prop} {d ty : Nat} {pos : String} {af : Array Edge} {g : Option (Nat × Bool)} {X : List Nat} {L : List Chunk}
theorem ws_litC {tt e : TypeId} {n : Nat} {parts : Array (Nat × Operand)} {i ie : TI} {ps : List (Nat × AV)} {c : List AV} (cs : List (List AV)) (hS : SH s0 L z X) (hg : guardY ops m g = some true) (hd : Nat.ble (d + 1) nt.n = true) (hT : T tt = some i) (hs : i.sh = .slice e) (he : T e = some ie) (hp : evPartsY m parts.toList = some ps) (hz : ie.zero.length = ie.size) (h0 : ie.size ≠ 0) (h24 : n * ie.size ≤ 2 ^ 24)
  (hf : fillA (fun n => some (n * ie.size, ie.size)) (List.replicate n ie.zero).flatten ps = some c) (hl : c.all AV.leaf = true) (hc : c = cs.flatten) (hcs : ∀ x ∈ cs, x.length = ie.size ∧ x.all AV.leaf = true) (hn : n = cs.length)
  (k : ∀ lv z', SH s0 (L ++ [rowC lv ie.size cs]) z' X → W P T K nt ops rest ((d, lv) :: m) z' Q) : W P T K nt ops (⟨some d, .buildSlice tt n parts, ty, pos, af, g⟩ :: rest) m z Q := by
 refine w_lit cs hg hd hT hs he hp hz h0 h24 hf hl hc hcs hn hS.ok ?_;rintro lv z1 hlv hk hc1 hlg;exact k lv z1 (hS.add hk _ ⟨hlv, fun h => by rw [hlg] at h; cases h⟩ (row_newb hk hlv hlg hc1))
theorem SH.cutR {v : AV} {sz : Nat} {cs : List (List AV)} (h : SH s0 L s X) (n : Nat) (hn : L[n]? = some (rowC v sz cs)) {k : Nat} (hk : k ≤ cs.length) : SH s0 (L.set n (rowC (cutA v 0 k) sz (cs.take k))) s X :=
 h.upd n hn (Keep.refl h.ok) (fun g hg => by cases hg) (rowC (cutA v 0 k) sz (cs.take k)) ⟨by have := (h.row n hn).cut (Nat.zero_le k) hk; simpa using this, fun e => by rw [cutA_gs] at e; rw [(h.nls n hn) e]; rfl⟩ fun g hg => .inl (by have hg : g ∈ (cutA v 0 k).gs := hg; rwa [cutA_gs] at hg)
end
theorem iter_opn_le {ks : List Int} : ∀ {i : Nat} {a : E1}, iter1 ks i = some a → a.opn.length ≤ i
 | 0, a, h => by cases h; simp
 | i + 1, b, h => by
  have h' := h;rw [iter1] at h';cases ha : iter1 ks i with
  | none => rw [ha] at h'; cases h'
  | some a =>
   have hl := iter_opn_le ha;by_cases h57 : ks.getD i 0 = 5 ∨ ks.getD i 0 = 7
   ·rw [opn_57 ha h h57, laa]; simp; omega
   ·by_cases h8 : ks.getD i 0 = 8
    ·rw [(opn_8 ha h h8).2, List.length_dropLast]; omega
    ·rw [opn_same ha h (by omega) (by omega) h8]; omega
theorem kinds_at {y : FunL} {i : Nat} {st : StmtL} (h : y.body[i]? = some st) : (kinds y).getD i 0 = st.kind := by
 rw [kinds, gdd, gmm, h]; rfl
theorem uC_map (l : List Nat) (n : Nat) : l.map uC ++ [[.int .u64 (n : Nat)]] = (l ++ [n]).map uC := by rw [List.map_append]; rfl
theorem lev_map (f : Nat → Nat) (i : Nat) : (List.range i).map f ++ [f i] = (List.range (i + 1)).map f := by rw [List.range_succ, List.map_append]; rfl
theorem levY_no {s : SrcL} {f : Int} {y : FunL} (h : (ends1 (kinds y)).isSome = false) : levY s f y = [] := by rw [levY, h]; rfl
theorem levY_yes {s : SrcL} {f : Int} {y : FunL} (h : (ends1 (kinds y)).isSome = true) : levY s f y = (List.range y.body.length).map (levI s f y) := if_pos h
theorem levels_ok {s : St} {c : List AV} {x : SrcL} {k : Nat} {y : FunL} (hok : s.Ok) (hx : x.small) (hfi : x.fine) (hv : SrcP x c) (hy : x.funcs[k]? = some y) :
  CallS Try.prog Tt Kt 26 [.agg c, .int .i64 (k : Nat)] s fun r s' => Keep [] s s' ∧ RowP 1 r ((levsN x (k : Nat)).map uC) := by
 have hz := hv.leaf;obtain ⟨vp, vg, va, vc, vf, rfl, hvp, hvg, hva, hvc, csf, hrf, hlf, hF⟩ := id hv;obtain ⟨hl1, hl2, hl3, hl4, hl5, hsm⟩ := id hx;have hsf : vf.slen = some x.funcs.length := by rw [hrf.slen, hlf]
 have hkl := (ges.1 hy).1;obtain ⟨cy, hcy⟩ : ∃ c, csf[k]? = some c := ⟨_, gee (by omega)⟩;obtain ⟨yp, yr, yv, yb, rfl, hyp, hyr, hyv, hyb⟩ := hF k y cy hy hcy;obtain ⟨hy1, hy2, hy3, hy4, hy5⟩ := id (hsm y (mog hy));have hyf := hfi.2.2.2.2 y (mog hy);have hsp : yp.slen = some y.params.length := by rw [hyp.slen, lmm]
 obtain ⟨csb, hbr, hbl, hbE⟩ := id hyb;have hsb : yb.slen = some y.body.length := by rw [hbr.slen, hbl]
 have hkr : KindsR .leaf yb (kinds y) := KindsR.of hyb;have hyz : ([.str y.name, .int .u64 y.level, yp, yr, yv, yb] : List AV).all AV.leaf = true := by
  simp only [List.all_cons, List.all_nil, hyp.leaf, hyr.leaf, hyv.leaf, hbr.leaf]; rfl
 have hyL := hyf.2.1;have hkl2 : (kinds y).length = y.body.length := by rw [kinds, lmm]
 refine CallS.row hok ?_;refine cof 129 Try.func26 ?_;refine aq0 ?_;have hS := SH.start hok;refine aq0 ?_;refine ws_box hS rfl rfl rfl hz ?_;rintro p0 z hS hk;have hS : SH _ [_] z _ := hS;refine aq4 ?_;refine w_split (i := 21) rfl (fun h21 => ?_) (fun h21 => ?_)
 ·simp only [dtt] at h21
  exfalso; omega
 simp only [dff] at h21;refine aq2 ?_;refine wvz (v := vf) (oL 0 hS) ?_;refine wvz (oN hsf) ?_;refine aq2 ?_;refine wc_condT rfl (fun h27 => ?_) (fun h27 => ?_)
 ·simp only [dtt, ge_iff_le] at h27
  exfalso; omega
 simp only [dff, ge_iff_le] at h27;refine aq1 ?_;refine wvz (v := vf) (oL 0 hS) ?_;refine aq1 ?_;refine wvz (oI (RowP.up hrf _)) ?_;refine wvz (v := .agg [.str y.name, .int .u64 y.level, yp, yr, yv, yb]) (oM (Row.pt (RowP.up hrf _) hcy)) ?_;refine ws_alloc hS rfl rfl rfl rfl ?_;rintro p5 z hS hk;have hS : SH _ [_, _] z _ := hS;have hK := hS.K;refine ws_store 1 hS rfl rfl rfl rfl rfl rfl (by assumption) (nl rfl) ?_;rintro z hS;have hS : SH _ [_, _] z _ := hS;refine aq0 ?_;have hS : SH s [ptC (.ptr p0 0 0) [vp, vg, va, vc, vf], ptC (.ptr p5 0 0) [.str y.name, .int .u64 y.level, yp, yr, yv, yb]] z := hS;refine aq1 ?_;refine wvz (v := yb) (oL 1 hS) ?_;refine w_call rfl rfl (op_call rfl rfl rfl rfl) (ends_ok hS.ok (by rw [kinds, lmm]; exact hy4) (hkr.up _)) ?_;rintro r z ⟨hk, he⟩;have hS := hS.mov hk;have hK := hS.K;obtain ⟨ea, eb, rfl, -⟩ := he.shape;refine aq9 ?_;refine wc_condT rfl (fun h41 => ?_) (fun h41 => ?_)
 ·simp only [Bool.not_eq_true'] at h41;refine aq1 ?_;exact ⟨_, rfl, hK, by rw [levsN_in hy, levY_no h41]; rfl, fun g hg => by cases hg⟩
 simp only [Bool.not_eq_false'] at h41;refine aq1 ?_;refine wvz (v := .int .u64 y.level) (oL 1 hS) ?_;refine ws_litC (c := [.int .u64 y.level]) [[.int .u64 y.level]] hS rfl rfl rfl rfl rfl rfl rfl (by decide) (by decide) rfl rfl rfl (by intro c hc; rw [msi.1 hc]; exact ⟨rfl, rfl⟩) rfl ?_;rintro l44 z hS;refine aq2 ?_;have hS : SH s [ptC (.ptr p0 0 0) [vp, vg, va, vc, vf], ptC (.ptr p5 0 0) [.str y.name, .int .u64 y.level, yp, yr, yv, yb], rowC l44 1 [[.int .u64 y.level]]] z := hS;have hS := hS.nil 1;have e0 : ((stkN y.level.toNat (blkW x (k : Nat) y) []).map uC) = [[.int .u64 y.level]] := by
  show [[AV.int .u64 ((y.level.toNat : Nat) : Int)]] = _
  rw [u64_cast hyL]
 have hS : SH s [ptC (.ptr p0 0 0) [vp, vg, va, vc, vf], ptC (.ptr p5 0 0) [.str y.name, .int .u64 y.level, yp, yr, yv, yb], rowC l44 1 ((stkN y.level.toNat (blkW x (k : Nat) y) []).map uC), rowC .nils 1 (((List.range 0).map (levI x (k : Nat) y)).map uC)] z := by rw [e0]; exact hS
 have hK := hS.K;refine aq1 ?_;refine wvz (v := yb) (oL 1 hS) ?_;refine wvz (oN hsb) ?_;refine aq1 ?_;refine wc_loop_at (fun jj m z => ∃ (i : Nat) (a : E1) (v9 v10 : AV), jj = y.body.length - i ∧ i ≤ y.body.length ∧ iter1 (kinds y) i = some a ∧ m = [(1, .int .i64 (k : Nat)), (2, .ptr p0 0 0), (9, v9), (10, v10), (46, yb), (47, .int .i64 (y.body.length : Nat)), (48, .int .i64 (i : Nat))] ∧ SH s [ptC (.ptr p0 0 0) [vp, vg, va, vc, vf], ptC (.ptr p5 0 0) [.str y.name, .int .u64 y.level, yp, yr, yv, yb], rowC v9 1 ((stkN y.level.toNat (blkW x (k : Nat) y) a.opn).map uC), rowC v10 1 (((List.range i).map (levI x (k : Nat) y)).map uC)] z) y.body.length
  [(1, .int .i64 (k : Nat)), (2, .ptr p0 0 0), (9, l44), (10, .nils), (46, yb), (47, .int .i64 (y.body.length : Nat)), (48, .int .i64 ((0 : Nat) : Int))] (scn rfl (scn rfl (scn rfl (scn rfl (scn rfl (scn rfl (scn rfl (Sub.nil _)))))))) ⟨0, _, l44, .nils, by simp, by simp, rfl, rfl, hS⟩ ?_
 clear hS hK;rintro jj m z ⟨i, a, v9, v10, rfl, hi, ha, rfl, hS⟩;have hK := hS.K;have hal := iter_opn_le ha;refine aq1 ?_;refine wcd (fun h49 => ?_) (fun h49 => ?_)
 ·refine aq0 ?_;obtain ⟨st, hst⟩ : ∃ st, y.body[i]? = some st := ⟨_, gee (by omega)⟩;obtain ⟨cst, hcst⟩ : ∃ c, csb[i]? = some c := ⟨_, gee (by omega)⟩;obtain ⟨vt, ve, rfl, hvt, hve⟩ := hbE i st cst hst hcst;obtain ⟨cse, hre, hle, hTE⟩ := id hve;have hse : ve.slen = some st.exprs.length := by rw [hre.slen, hle]
  have hki := kinds_at hst;obtain ⟨b, hb⟩ := iter_some h41 (i := i + 1) (by omega);have hss := hy5 st (mog hst);have hss2 := hss.2.1;have hskl := stkN_len y.level.toNat (blkW x (k : Nat) y) a.opn;have hsz : ([.int .i64 st.kind, .str st.name, vt, ve] : List AV).all AV.leaf = true := by
   simp only [List.all_cons, List.all_nil, hvt.leaf, hre.leaf]; rfl
  refine aq0 ?_;refine wvz (oI (RowP.up hbr _)) ?_;refine wvz (v := .agg [.int .i64 st.kind, .str st.name, vt, ve]) (oM (Row.pt (RowP.up hbr _) hcst)) ?_;refine ws_alloc hS rfl rfl rfl rfl ?_;rintro p12 z hS hk;have hS : SH _ [_, _, _, _, _] z _ := hS;refine ws_store 4 hS rfl rfl rfl rfl rfl rfl hsz (nl rfl) ?_;rintro z hS;have hS : SH _ [_, _, _, _, _] z _ := hS;refine aq0 ?_;have hS : SH s [ptC (.ptr p0 0 0) [vp, vg, va, vc, vf], ptC (.ptr p5 0 0) [.str y.name, .int .u64 y.level, yp, yr, yv, yb], rowC v9 1 ((stkN y.level.toNat (blkW x (k : Nat) y) a.opn).map uC), rowC v10 1 (((List.range i).map (levI x (k : Nat) y)).map uC), ptC (.ptr p12 0 0) [.int .i64 st.kind, .str st.name, vt, ve]] z := hS;have hK := hS.K;refine aq1 ?_;refine wvz (v := .int .i64 ((a.opn.length + 1 : Nat) : Int)) (op_len rfl rfl rfl rfl rfl ((hS.row 2 rfl).slen.trans (by rw [lmm, stkN_len]))) ?_;refine aq2 ?_;refine wvz (v := .int .i64 st.kind) (oL 4 hS) ?_;refine aq2 ?_;refine wcb (fun h64 => ?_) (fun h64 => ?_)
  ·refine aq0 ?_;refine wc_cond_t rfl ?_;refine aq3 ?_;refine wvz (v := .int .i64 ((a.opn.length : Nat) : Int)) (op_subE rfl rfl (by unfold In64; omega) (by omega)) ?_;refine wvz (op_idxF rfl rfl (natA_cast _ _) rfl rfl rfl rfl (hS.row 2 rfl) (by rw [stkN_len]; omega)) ?_;refine wvz (v := .int .u64 ((exOr y.level.toNat (blkW x (k : Nat) y) a.opn : Nat) : Int)) (oM (Row.mk_pt (hS.row 2 rfl) (stkN_top _ _ _))) ?_;refine ws_lit1 hS rfl rfl rfl rfl rfl rfl rfl rfl (by decide) (by decide) rfl (by rfl) rfl ?_;rintro lt73 z hS hk hlt73;refine ws_append 3 hS rfl rfl rfl rfl rfl rfl rfl rfl rfl rfl rfl (by decide) (hlt73) (by (simp [maxBytes]; omega)) (by (simp [maxBytes]; omega)) ?_;rintro at74 z hS;have hS : SH _ [_, _, _, _, _] z _ := hS;refine aq1 ?_;have hS : SH s [ptC (.ptr p0 0 0) [vp, vg, va, vc, vf], ptC (.ptr p5 0 0) [.str y.name, .int .u64 y.level, yp, yr, yv, yb], rowC v9 1 ((stkN y.level.toNat (blkW x (k : Nat) y) a.opn).map uC), rowC at74 1 (((List.range (i + 1)).map (levI x (k : Nat) y)).map uC), ptC (.ptr p12 0 0) [.int .i64 st.kind, .str st.name, vt, ve]] z := by
    rw [← lev_map, ← uC_map, levI_else ha (by omega) (by omega)]; exact hS
   have hK := hS.K;refine aq2 ?_;refine wvz (v := .int .i64 ((a.opn.length : Nat) : Int)) (op_subE rfl rfl (by unfold In64; omega) (by omega)) ?_;refine wvz (op_idxF rfl rfl (natA_cast _ _) rfl rfl rfl rfl (hS.row 2 rfl) (by rw [stkN_len]; omega)) ?_;refine wvz (v := .int .u64 ((exOr y.level.toNat (blkW x (k : Nat) y) a.opn : Nat) : Int)) (oM (Row.mk_pt (hS.row 2 rfl) (stkN_top _ _ _))) ?_;refine aq2 ?_;refine wvz (v := ve) (oL 4 hS) ?_;refine wvz (oN hse) ?_;refine aq1 ?_;refine wc_loop_at (fun jj m z => ∃ j : Nat, jj = st.exprs.length - j ∧ j ≤ st.exprs.length ∧ m = [(1, .int .i64 (k : Nat)), (2, .ptr p0 0 0), (9, v9), (10, at74), (46, yb), (47, .int .i64 (y.body.length : Nat)), (48, .int .i64 (i : Nat)), (14, .int .u64 (cndL x (k : Nat) (st.exprs.take j) (exOr y.level.toNat (blkW x (k : Nat) y) a.opn) : Nat)), (81, ve), (82, .int .i64 (st.exprs.length : Nat)), (83, .int .i64 (j : Nat))] ∧ SH s [ptC (.ptr p0 0 0) [vp, vg, va, vc, vf], ptC (.ptr p5 0 0) [.str y.name, .int .u64 y.level, yp, yr, yv, yb], rowC v9 1 ((stkN y.level.toNat (blkW x (k : Nat) y) a.opn).map uC), rowC at74 1 (((List.range (i + 1)).map (levI x (k : Nat) y)).map uC), ptC (.ptr p12 0 0) [.int .i64 st.kind, .str st.name, vt, ve]] z) st.exprs.length
    [(1, .int .i64 (k : Nat)), (2, .ptr p0 0 0), (9, v9), (10, at74), (46, yb), (47, .int .i64 (y.body.length : Nat)), (48, .int .i64 (i : Nat)), (14, .int .u64 (cndL x (k : Nat) (st.exprs.take 0) (exOr y.level.toNat (blkW x (k : Nat) y) a.opn) : Nat)), (81, ve), (82, .int .i64 (st.exprs.length : Nat)), (83, .int .i64 ((0 : Nat) : Int))] (scn rfl (scn rfl (scn rfl (scn rfl (scn rfl (scn rfl (scn rfl (scn rfl (scn rfl (scn rfl (scn rfl (Sub.nil _)))))))))))) ⟨0, by simp, by simp, rfl, hS⟩ ?_
   clear hS hK;rintro jj m z ⟨j, rfl, hj, rfl, hS⟩;refine aq1 ?_;refine wcd (fun h84 => ?_) (fun h84 => ?_)
   ·refine aq0 ?_;obtain ⟨ts, hts⟩ : ∃ d, st.exprs[j]? = some d := ⟨_, gee (by omega)⟩;obtain ⟨ct, hct⟩ : ∃ c, cse[j]? = some c := ⟨_, gee (by omega)⟩;obtain ⟨tv, rfl, htv⟩ := hTE j ts ct hts hct;refine aq0 ?_;refine wvz (oI (RowP.up hre _)) ?_;refine wvz (v := tv) (oM (Row.pt (RowP.up hre _) hct)) ?_;refine aq1 ?_;refine wvz (v := .agg [vp, vg, va, vc, vf]) (oL 0 hS) ?_;refine aq2 ?_;refine wkz (expr_ok hS.ok hx hfi hv hy (hss.2.2 ts (mog hts)) htv) ?_;rintro _ z ⟨hk, rfl⟩;have hS := hS.mov hk;refine aq7 ?_;refine w_litT (c := [.int .u64 (cndL x (k : Nat) (st.exprs.take j) (exOr y.level.toNat (blkW x (k : Nat) y) a.opn) : Nat), .int .u64 (exN x (k : Nat) ts : Nat)]) [[.int .u64 (cndL x (k : Nat) (st.exprs.take j) (exOr y.level.toNat (blkW x (k : Nat) y) a.opn) : Nat)], [.int .u64 (exN x (k : Nat) ts : Nat)]] hS rfl rfl rfl rfl rfl rfl rfl (by decide) (by decide) rfl rfl rfl (by intro c hc; simp only [List.mem_cons, nmn, or_false] at hc; rcases hc with rfl | rfl <;> exact ⟨rfl, rfl⟩) rfl ?_;rintro lv r z hr hS;have hS : SH _ [_, _, _, _, _] z := hS;refine w_call rfl rfl (op_call rfl rfl rfl rfl) (join_ok (ls := [(cndL x (k : Nat) (st.exprs.take j) (exOr y.level.toNat (blkW x (k : Nat) y) a.opn) : Nat), (exN x (k : Nat) ts : Nat)]) hS.ok (by simp) hr) ?_;rintro _ z ⟨hk, rfl⟩;have hS := hS.mov hk;refine aq1 ?_;refine wad ?_;refine aq1 ?_;have e6 : ((cndL x (k : Nat) (st.exprs.take (j + 1)) (exOr y.level.toNat (blkW x (k : Nat) y) a.opn) : Nat) : Int) = joinL [((cndL x (k : Nat) (st.exprs.take j) (exOr y.level.toNat (blkW x (k : Nat) y) a.opn) : Nat) : Int), ((exN x (k : Nat) ts : Nat) : Int)] := by
     rw [cndL_snoc hts, join_two (cndL_64 hfi _ _ (exOr_64 (lv := 0) (blkW_64 hfi _ _) _ (by have := hyL.1; have := hyL.2; omega))) (exN_64 hfi _ _)]
    exact rn ⟨j + 1, rfl, by omega, by rw [e6], hS⟩
   obtain rfl : j = st.exprs.length := by omega
   refine aq2 ?_;refine ws_lit1 hS rfl rfl rfl rfl rfl rfl rfl rfl (by decide) (by decide) rfl (by rfl) rfl ?_;rintro lt101 z hS hk hlt101;refine ws_append 2 hS rfl rfl rfl rfl rfl rfl rfl rfl rfl rfl rfl (by decide) (hlt101) (by (simp only [lmm, lnn, lcc, maxBytes]; omega)) (by (simp only [lmm, lnn, lcc, maxBytes]; omega)) ?_;rintro at102 z hS;have hS : SH _ [_, _, _, _, _] z _ := hS;refine aq1 ?_;have hS : SH s [ptC (.ptr p0 0 0) [vp, vg, va, vc, vf], ptC (.ptr p5 0 0) [.str y.name, .int .u64 y.level, yp, yr, yv, yb], rowC at102 1 ((stkN y.level.toNat (blkW x (k : Nat) y) b.opn).map uC), rowC at74 1 (((List.range (i + 1)).map (levI x (k : Nat) y)).map uC), ptC (.ptr p12 0 0) [.int .i64 st.kind, .str st.name, vt, ve]] z := by
    rw [opn_57 ha hb (by omega), stkN_snoc, blkW_at hst, ← cndL_from, ← uC_map]; rw [List.take_length] at hS; exact hS
   refine aq0 ?_;refine wad ?_;refine aq1 ?_;have hS := hS.sub (L' := [_, _, _, _]) (.cons_cons _ (.cons_cons _ (.cons_cons _ (.cons_cons _ (.cons _ (.refl _))))));exact rn ⟨i + 1, b, _, _, rfl, by omega, hb, rfl, hS⟩
  refine aq2 ?_;refine wcb (fun h64 => ?_) (fun h64 => ?_)
  ·refine aq3 ?_;refine wvz (v := .int .i64 ((a.opn.length : Nat) : Int)) (op_subE rfl rfl (by unfold In64; omega) (by omega)) ?_;refine wvz (op_idxF rfl rfl (natA_cast _ _) rfl rfl rfl rfl (hS.row 2 rfl) (by rw [stkN_len]; omega)) ?_;refine wvz (v := .int .u64 ((exOr y.level.toNat (blkW x (k : Nat) y) a.opn : Nat) : Int)) (oM (Row.mk_pt (hS.row 2 rfl) (stkN_top _ _ _))) ?_;refine ws_lit1 hS rfl rfl rfl rfl rfl rfl rfl rfl (by decide) (by decide) rfl (by rfl) rfl ?_;rintro lt73 z hS hk hlt73;refine ws_append 3 hS rfl rfl rfl rfl rfl rfl rfl rfl rfl rfl rfl (by decide) (hlt73) (by (simp [maxBytes]; omega)) (by (simp [maxBytes]; omega)) ?_;rintro at74 z hS;have hS : SH _ [_, _, _, _, _] z _ := hS;refine aq1 ?_;have hS : SH s [ptC (.ptr p0 0 0) [vp, vg, va, vc, vf], ptC (.ptr p5 0 0) [.str y.name, .int .u64 y.level, yp, yr, yv, yb], rowC v9 1 ((stkN y.level.toNat (blkW x (k : Nat) y) a.opn).map uC), rowC at74 1 (((List.range (i + 1)).map (levI x (k : Nat) y)).map uC), ptC (.ptr p12 0 0) [.int .i64 st.kind, .str st.name, vt, ve]] z := by
    rw [← lev_map, ← uC_map, levI_else ha (by omega) (by omega)]; exact hS
   have hK := hS.K;refine aq2 ?_;refine wvz (v := .int .i64 ((a.opn.length : Nat) : Int)) (op_subE rfl rfl (by unfold In64; omega) (by omega)) ?_;refine wvz (op_idxF rfl rfl (natA_cast _ _) rfl rfl rfl rfl (hS.row 2 rfl) (by rw [stkN_len]; omega)) ?_;refine wvz (v := .int .u64 ((exOr y.level.toNat (blkW x (k : Nat) y) a.opn : Nat) : Int)) (oM (Row.mk_pt (hS.row 2 rfl) (stkN_top _ _ _))) ?_;refine aq2 ?_;refine wvz (v := ve) (oL 4 hS) ?_;refine wvz (oN hse) ?_;refine aq1 ?_;refine wc_loop_at (fun jj m z => ∃ j : Nat, jj = st.exprs.length - j ∧ j ≤ st.exprs.length ∧ m = [(1, .int .i64 (k : Nat)), (2, .ptr p0 0 0), (9, v9), (10, at74), (46, yb), (47, .int .i64 (y.body.length : Nat)), (48, .int .i64 (i : Nat)), (14, .int .u64 (cndL x (k : Nat) (st.exprs.take j) (exOr y.level.toNat (blkW x (k : Nat) y) a.opn) : Nat)), (81, ve), (82, .int .i64 (st.exprs.length : Nat)), (83, .int .i64 (j : Nat))] ∧ SH s [ptC (.ptr p0 0 0) [vp, vg, va, vc, vf], ptC (.ptr p5 0 0) [.str y.name, .int .u64 y.level, yp, yr, yv, yb], rowC v9 1 ((stkN y.level.toNat (blkW x (k : Nat) y) a.opn).map uC), rowC at74 1 (((List.range (i + 1)).map (levI x (k : Nat) y)).map uC), ptC (.ptr p12 0 0) [.int .i64 st.kind, .str st.name, vt, ve]] z) st.exprs.length
    [(1, .int .i64 (k : Nat)), (2, .ptr p0 0 0), (9, v9), (10, at74), (46, yb), (47, .int .i64 (y.body.length : Nat)), (48, .int .i64 (i : Nat)), (14, .int .u64 (cndL x (k : Nat) (st.exprs.take 0) (exOr y.level.toNat (blkW x (k : Nat) y) a.opn) : Nat)), (81, ve), (82, .int .i64 (st.exprs.length : Nat)), (83, .int .i64 ((0 : Nat) : Int))] (scn rfl (scn rfl (scn rfl (scn rfl (scn rfl (scn rfl (scn rfl (scn rfl (scn rfl (scn rfl (scn rfl (Sub.nil _)))))))))))) ⟨0, by simp, by simp, rfl, hS⟩ ?_
   clear hS hK;rintro jj m z ⟨j, rfl, hj, rfl, hS⟩;refine aq1 ?_;refine wcd (fun h84 => ?_) (fun h84 => ?_)
   ·refine aq0 ?_;obtain ⟨ts, hts⟩ : ∃ d, st.exprs[j]? = some d := ⟨_, gee (by omega)⟩;obtain ⟨ct, hct⟩ : ∃ c, cse[j]? = some c := ⟨_, gee (by omega)⟩;obtain ⟨tv, rfl, htv⟩ := hTE j ts ct hts hct;refine aq0 ?_;refine wvz (oI (RowP.up hre _)) ?_;refine wvz (v := tv) (oM (Row.pt (RowP.up hre _) hct)) ?_;refine aq1 ?_;refine wvz (v := .agg [vp, vg, va, vc, vf]) (oL 0 hS) ?_;refine aq2 ?_;refine wkz (expr_ok hS.ok hx hfi hv hy (hss.2.2 ts (mog hts)) htv) ?_;rintro _ z ⟨hk, rfl⟩;have hS := hS.mov hk;refine aq7 ?_;refine w_litT (c := [.int .u64 (cndL x (k : Nat) (st.exprs.take j) (exOr y.level.toNat (blkW x (k : Nat) y) a.opn) : Nat), .int .u64 (exN x (k : Nat) ts : Nat)]) [[.int .u64 (cndL x (k : Nat) (st.exprs.take j) (exOr y.level.toNat (blkW x (k : Nat) y) a.opn) : Nat)], [.int .u64 (exN x (k : Nat) ts : Nat)]] hS rfl rfl rfl rfl rfl rfl rfl (by decide) (by decide) rfl rfl rfl (by intro c hc; simp only [List.mem_cons, nmn, or_false] at hc; rcases hc with rfl | rfl <;> exact ⟨rfl, rfl⟩) rfl ?_;rintro lv r z hr hS;have hS : SH _ [_, _, _, _, _] z := hS;refine w_call rfl rfl (op_call rfl rfl rfl rfl) (join_ok (ls := [(cndL x (k : Nat) (st.exprs.take j) (exOr y.level.toNat (blkW x (k : Nat) y) a.opn) : Nat), (exN x (k : Nat) ts : Nat)]) hS.ok (by simp) hr) ?_;rintro _ z ⟨hk, rfl⟩;have hS := hS.mov hk;refine aq1 ?_;refine wad ?_;refine aq1 ?_;have e6 : ((cndL x (k : Nat) (st.exprs.take (j + 1)) (exOr y.level.toNat (blkW x (k : Nat) y) a.opn) : Nat) : Int) = joinL [((cndL x (k : Nat) (st.exprs.take j) (exOr y.level.toNat (blkW x (k : Nat) y) a.opn) : Nat) : Int), ((exN x (k : Nat) ts : Nat) : Int)] := by
     rw [cndL_snoc hts, join_two (cndL_64 hfi _ _ (exOr_64 (lv := 0) (blkW_64 hfi _ _) _ (by have := hyL.1; have := hyL.2; omega))) (exN_64 hfi _ _)]
    exact rn ⟨j + 1, rfl, by omega, by rw [e6], hS⟩
   obtain rfl : j = st.exprs.length := by omega
   refine aq2 ?_;refine ws_lit1 hS rfl rfl rfl rfl rfl rfl rfl rfl (by decide) (by decide) rfl (by rfl) rfl ?_;rintro lt101 z hS hk hlt101;refine ws_append 2 hS rfl rfl rfl rfl rfl rfl rfl rfl rfl rfl rfl (by decide) (hlt101) (by (simp only [lmm, lnn, lcc, maxBytes]; omega)) (by (simp only [lmm, lnn, lcc, maxBytes]; omega)) ?_;rintro at102 z hS;have hS : SH _ [_, _, _, _, _] z _ := hS;refine aq1 ?_;have hS : SH s [ptC (.ptr p0 0 0) [vp, vg, va, vc, vf], ptC (.ptr p5 0 0) [.str y.name, .int .u64 y.level, yp, yr, yv, yb], rowC at102 1 ((stkN y.level.toNat (blkW x (k : Nat) y) b.opn).map uC), rowC at74 1 (((List.range (i + 1)).map (levI x (k : Nat) y)).map uC), ptC (.ptr p12 0 0) [.int .i64 st.kind, .str st.name, vt, ve]] z := by
    rw [opn_57 ha hb (by omega), stkN_snoc, blkW_at hst, ← cndL_from, ← uC_map]; rw [List.take_length] at hS; exact hS
   refine aq0 ?_;refine wad ?_;refine aq1 ?_;have hS := hS.sub (L' := [_, _, _, _]) (.cons_cons _ (.cons_cons _ (.cons_cons _ (.cons_cons _ (.cons _ (.refl _))))));exact rn ⟨i + 1, b, _, _, rfl, by omega, hb, rfl, hS⟩
  refine aq2 ?_;refine wcb (fun h103 => ?_) (fun h103 => ?_)
  ·have hne := (opn_6 ha hb (by omega)).1;have hnl := List.length_pos_iff.2 hne;refine aq3 ?_;refine wvz (v := .int .i64 (((a.opn.length - 1) : Nat) : Int)) (op_subE rfl rfl (by unfold In64; omega) (by omega)) ?_;refine wvz (op_idxF rfl rfl (natA_cast _ _) rfl rfl rfl rfl (hS.row 2 rfl) (by rw [stkN_len]; omega)) ?_;refine wvz (v := .int .u64 ((exOr y.level.toNat (blkW x (k : Nat) y) a.opn.dropLast : Nat) : Int)) (oM (Row.mk_pt (hS.row 2 rfl) stkN_sub)) ?_;refine ws_lit1 hS rfl rfl rfl rfl rfl rfl rfl rfl (by decide) (by decide) rfl (by rfl) rfl ?_;rintro lt111 z hS hk hlt111;refine ws_append 3 hS rfl rfl rfl rfl rfl rfl rfl rfl rfl rfl rfl (by decide) (hlt111) (by (simp [maxBytes]; omega)) (by (simp [maxBytes]; omega)) ?_;rintro at112 z hS;have hS : SH _ [_, _, _, _, _] z _ := hS;refine aq1 ?_;have hS : SH s [ptC (.ptr p0 0 0) [vp, vg, va, vc, vf], ptC (.ptr p5 0 0) [.str y.name, .int .u64 y.level, yp, yr, yv, yb], rowC v9 1 ((stkN y.level.toNat (blkW x (k : Nat) y) a.opn).map uC), rowC at112 1 (((List.range (i + 1)).map (levI x (k : Nat) y)).map uC), ptC (.ptr p12 0 0) [.int .i64 st.kind, .str st.name, vt, ve]] z := by
    rw [← lev_map, ← uC_map, levI_68 ha (.inl (by omega))]; exact hS
   have hS : SH s [ptC (.ptr p0 0 0) [vp, vg, va, vc, vf], ptC (.ptr p5 0 0) [.str y.name, .int .u64 y.level, yp, yr, yv, yb], rowC v9 1 ((stkN y.level.toNat (blkW x (k : Nat) y) b.opn).map uC), rowC at112 1 (((List.range (i + 1)).map (levI x (k : Nat) y)).map uC), ptC (.ptr p12 0 0) [.int .i64 st.kind, .str st.name, vt, ve]] z := by rw [(opn_6 ha hb (by omega)).2]; exact hS
   refine aq0 ?_;refine wad ?_;refine aq1 ?_;have hS := hS.sub (L' := [_, _, _, _]) (.cons_cons _ (.cons_cons _ (.cons_cons _ (.cons_cons _ (.cons _ (.refl _))))));exact rn ⟨i + 1, b, _, _, rfl, by omega, hb, rfl, hS⟩
  refine aq2 ?_;refine wcb (fun h113 => ?_) (fun h113 => ?_)
  ·refine aq0 ?_;have hne := (opn_8 ha hb (by omega)).1;have hnl := List.length_pos_iff.2 hne;refine aq3 ?_;refine wvz (v := .int .i64 (((a.opn.length - 1) : Nat) : Int)) (op_subE rfl rfl (by unfold In64; omega) (by omega)) ?_;refine wvz (op_idxF rfl rfl (natA_cast _ _) rfl rfl rfl rfl (hS.row 2 rfl) (by rw [stkN_len]; omega)) ?_;refine wvz (v := .int .u64 ((exOr y.level.toNat (blkW x (k : Nat) y) a.opn.dropLast : Nat) : Int)) (oM (Row.mk_pt (hS.row 2 rfl) stkN_sub)) ?_;refine ws_lit1 hS rfl rfl rfl rfl rfl rfl rfl rfl (by decide) (by decide) rfl (by rfl) rfl ?_;rintro lt121 z hS hk hlt121;refine ws_append 3 hS rfl rfl rfl rfl rfl rfl rfl rfl rfl rfl rfl (by decide) (hlt121) (by (simp [maxBytes]; omega)) (by (simp [maxBytes]; omega)) ?_;rintro at122 z hS;have hS : SH _ [_, _, _, _, _] z _ := hS;refine aq1 ?_;have hS : SH s [ptC (.ptr p0 0 0) [vp, vg, va, vc, vf], ptC (.ptr p5 0 0) [.str y.name, .int .u64 y.level, yp, yr, yv, yb], rowC v9 1 ((stkN y.level.toNat (blkW x (k : Nat) y) a.opn).map uC), rowC at122 1 (((List.range (i + 1)).map (levI x (k : Nat) y)).map uC), ptC (.ptr p12 0 0) [.int .i64 st.kind, .str st.name, vt, ve]] z := by
    rw [← lev_map, ← uC_map, levI_68 ha (.inr (by omega))]; exact hS
   refine aq2 ?_;refine wvz (v := .int .i64 ((a.opn.length : Nat) : Int)) (op_subE rfl rfl (by unfold In64; omega) (by omega)) ?_;refine wvz (op_cut (l := none) (h := some a.opn.length) (l' := 0) (h' := a.opn.length) rfl rfl (optY_some rfl (natA_cast _ _)) rfl rfl rfl rfl (hS.row 2 rfl) rfl rfl (Nat.zero_le _) (by rw [lmm, stkN_len]; omega)) ?_;refine aq1 ?_;have hS := hS.cutR 2 rfl (k := a.opn.length) (by rw [lmm, stkN_len]; omega);have hS : SH s [ptC (.ptr p0 0 0) [vp, vg, va, vc, vf], ptC (.ptr p5 0 0) [.str y.name, .int .u64 y.level, yp, yr, yv, yb], rowC (cutA v9 0 a.opn.length) 1 ((stkN y.level.toNat (blkW x (k : Nat) y) b.opn).map uC), rowC at122 1 (((List.range (i + 1)).map (levI x (k : Nat) y)).map uC), ptC (.ptr p12 0 0) [.int .i64 st.kind, .str st.name, vt, ve]] z := by rw [(opn_8 ha hb (by omega)).2, stkN_pop hne, List.map_take]; exact hS
   refine aq0 ?_;refine wad ?_;refine aq1 ?_;have hS := hS.sub (L' := [_, _, _, _]) (.cons_cons _ (.cons_cons _ (.cons_cons _ (.cons_cons _ (.cons _ (.refl _))))));exact rn ⟨i + 1, b, _, _, rfl, by omega, hb, rfl, hS⟩
  refine aq3 ?_;refine wvz (v := .int .i64 ((a.opn.length : Nat) : Int)) (op_subE rfl rfl (by unfold In64; omega) (by omega)) ?_;refine wvz (op_idxF rfl rfl (natA_cast _ _) rfl rfl rfl rfl (hS.row 2 rfl) (by rw [stkN_len]; omega)) ?_;refine wvz (v := .int .u64 ((exOr y.level.toNat (blkW x (k : Nat) y) a.opn : Nat) : Int)) (oM (Row.mk_pt (hS.row 2 rfl) (stkN_top _ _ _))) ?_;refine ws_lit1 hS rfl rfl rfl rfl rfl rfl rfl rfl (by decide) (by decide) rfl (by rfl) rfl ?_;rintro lt62 z hS hk hlt62;refine ws_append 3 hS rfl rfl rfl rfl rfl rfl rfl rfl rfl rfl rfl (by decide) (hlt62) (by (simp [maxBytes]; omega)) (by (simp [maxBytes]; omega)) ?_;rintro at63 z hS;have hS : SH _ [_, _, _, _, _] z _ := hS;refine aq1 ?_;have hS : SH s [ptC (.ptr p0 0 0) [vp, vg, va, vc, vf], ptC (.ptr p5 0 0) [.str y.name, .int .u64 y.level, yp, yr, yv, yb], rowC v9 1 ((stkN y.level.toNat (blkW x (k : Nat) y) a.opn).map uC), rowC at63 1 (((List.range (i + 1)).map (levI x (k : Nat) y)).map uC), ptC (.ptr p12 0 0) [.int .i64 st.kind, .str st.name, vt, ve]] z := by
   rw [← lev_map, ← uC_map, levI_else ha (by omega) (by omega)]; exact hS
  have hS : SH s [ptC (.ptr p0 0 0) [vp, vg, va, vc, vf], ptC (.ptr p5 0 0) [.str y.name, .int .u64 y.level, yp, yr, yv, yb], rowC v9 1 ((stkN y.level.toNat (blkW x (k : Nat) y) b.opn).map uC), rowC at63 1 (((List.range (i + 1)).map (levI x (k : Nat) y)).map uC), ptC (.ptr p12 0 0) [.int .i64 st.kind, .str st.name, vt, ve]] z := by rw [opn_same ha hb (by omega) (by omega) (by omega)]; exact hS
  refine aq0 ?_;refine wad ?_;refine aq1 ?_;have hS := hS.sub (L' := [_, _, _, _]) (.cons_cons _ (.cons_cons _ (.cons_cons _ (.cons_cons _ (.cons _ (.refl _))))));exact rn ⟨i + 1, b, _, _, rfl, by omega, hb, rfl, hS⟩
 obtain rfl : i = y.body.length := by omega
 refine aq2 ?_;exact ⟨_, rfl, hK, by rw [levsN_in hy, levY_yes h41]; exact hS.row 3 rfl, fun g hg => (hS.bd 3 rfl g hg).1⟩
end Go.Ab
namespace Go.Ab
open Go.Proofs
def EndsP (r : Option (List Int × List Int)) (v : AV) : Prop := match r with
 | none => v = .tup [.nils, .nils, .bool false]
 | some (E, L) => ∃ e l, v = .tup [e, l, .bool true] ∧ RowP 1 e (E.map iC) ∧ RowP 1 l (L.map iC) ∧ E.length ≤ 2097152 ∧ L.length ≤ 2097152
theorem told_ends {o : Option (List Int × List Int)} {c : Nat} {z : St} {r : AV} (hok : z.Ok) (hf : FrT c r) (he : EndsOut o r z.h) : ∃ r', Frz c z [r] [r'] ∧ EndsP o r' := by
 cases o with
 | none => exact ⟨_, .same _, he⟩
 | some p =>
  obtain ⟨E, L⟩ := p;obtain ⟨e, l, rfl, h1, h2, h3, h4⟩ := he;obtain ⟨f1, f2⟩ := hf _ _ _ rfl;obtain ⟨e', g1, k1⟩ := Frz.row hok h1 f1;obtain ⟨l', g2, k2⟩ := Frz.row hok h2 f2;exact ⟨_, Frz.tup (Frz.cons g1 (Frz.cons g2 (.same _))), e', l', rfl, k1, k2, h3, h4⟩
theorem ends_ref_P {s : St} {v : AV} {ks : List Int} (hok : s.Ok) (hl : ks.length ≤ 2097152) (hv : KindsR s.h v ks) :
  CallS Try.prog Tt Kt 71 [v] s (fun r s' => Keep [] s s' ∧ EndsP (ends1 ks) r) := by
 rw [ends_same];exact CallS.frz hok ((ends_ref_fr (nlr _) hok hl hv).mono fun r z' ⟨hk, hf, he⟩ => ⟨hk, told_ends hk.ok hf he⟩)
end Go.Ab
namespace Go.Ab
open Go.Proofs
theorem EndsP.shape {o : Option (List Int × List Int)} {r : AV} (h : EndsP o r) : ∃ ea eb, r = .tup [ea, eb, .bool o.isSome] ∧ ∀ E L, o = some (E, L) → RowP 1 ea (E.map iC) ∧ RowP 1 eb (L.map iC) := by
 cases o with
 | none => exact ⟨_, _, h, fun E L h => by cases h⟩
 | some p =>
  obtain ⟨E, L⟩ := p;obtain ⟨e, l, h1, h2, h3, -, -⟩ := h;exact ⟨e, l, h1, fun E' L' h => by cases h; exact ⟨h2, h3⟩⟩
theorem ends1_len {ks E L : List Int} (h : ends1 ks = some (E, L)) : E.length = ks.length ∧ L.length = ks.length := by
 unfold ends1 at h;split at h
 ·cases h
 ·rename_i z hz;split at h
  ·cases h;obtain ⟨r, hr⟩ := iter_rel (nlr _) hz;exact ⟨hr.l1, hr.l2⟩
  ·cases h
theorem getD_at {l : List Int} {i : Nat} (h : i < l.length) : l[i]? = some (l.getD i 0) := by
 rw [gdd, gee h]; rfl
theorem filt_t {p : Nat → Bool} {q : Nat} (h : p q = true) : (List.range (q + 1)).filter p = (List.range q).filter p ++ [q] := by
 rw [List.range_succ, List.filter_append, List.filter_cons_of_pos h]; rfl
theorem filt_f {p : Nat → Bool} {q : Nat} (h : p q = false) : (List.range (q + 1)).filter p = (List.range q).filter p := by
 rw [List.range_succ, List.filter_append, List.filter_cons_of_neg (by rw [h]; simp)]; simp
theorem levI_filt {s : SrcL} {f : Int} {y : FunL} {E L : List Int} (hE : ends1 (kinds y) = some (E, L)) {i : Nat} (hi : i < (kinds y).length) : exOr y.level.toNat (blkW s f y) ((List.range i).filter (insideB (kinds y) E i)) = levI s f y i := by
 obtain ⟨a, ha⟩ := iter_some (ks := kinds y) (by rw [hE]; rfl) (Nat.le_of_lt hi);rw [level_same hE hi ha, levI_at ha]
theorem levels_ref_ok {s : St} {c : List AV} {x : SrcL} {k : Nat} {y : FunL} (hok : s.Ok) (hx : x.small) (hfi : x.fine) (hv : SrcP x c) (hy : x.funcs[k]? = some y) :
  CallS Try.prog Tt Kt 29 [.agg c, .int .i64 (k : Nat)] s fun r s' => Keep [] s s' ∧ RowP 1 r ((levsN x (k : Nat)).map uC) := by
 have hz := hv.leaf;obtain ⟨vp, vg, va, vc, vf, rfl, hvp, hvg, hva, hvc, csf, hrf, hlf, hF⟩ := id hv;obtain ⟨hl1, hl2, hl3, hl4, hl5, hsm⟩ := id hx;have hsf : vf.slen = some x.funcs.length := by rw [hrf.slen, hlf]
 have hkl := (ges.1 hy).1;obtain ⟨cy, hcy⟩ : ∃ c, csf[k]? = some c := ⟨_, gee (by omega)⟩;obtain ⟨yp, yr, yv, yb, rfl, hyp, hyr, hyv, hyb⟩ := hF k y cy hy hcy;obtain ⟨hy1, hy2, hy3, hy4, hy5⟩ := id (hsm y (mog hy));have hyf := hfi.2.2.2.2 y (mog hy);have hsp : yp.slen = some y.params.length := by rw [hyp.slen, lmm]
 obtain ⟨csb, hbr, hbl, hbE⟩ := id hyb;have hsb : yb.slen = some y.body.length := by rw [hbr.slen, hbl]
 have hkr : KindsR .leaf yb (kinds y) := KindsR.of hyb;have hyL := hyf.2.1;have hkl2 : (kinds y).length = y.body.length := by rw [kinds, lmm]
 refine CallS.row hok ?_;refine cof 133 Try.func29 ?_;refine aq0 ?_;have hS := SH.start hok;refine aq0 ?_;refine ws_box hS rfl rfl rfl hz ?_;rintro p0 z hS hk;have hS : SH _ [_] z _ := hS;refine aq4 ?_;refine w_split (i := 19) rfl (fun h19 => ?_) (fun h19 => ?_)
 ·simp only [dtt] at h19
  exfalso; omega
 simp only [dff] at h19;refine aq2 ?_;refine wvz (v := vf) (oL 0 hS) ?_;refine wvz (oN hsf) ?_;refine aq2 ?_;refine wc_condT rfl (fun h25 => ?_) (fun h25 => ?_)
 ·simp only [dtt, ge_iff_le] at h25
  exfalso; omega
 simp only [dff, ge_iff_le] at h25;refine aq1 ?_;refine wvz (v := vf) (oL 0 hS) ?_;refine aq1 ?_;refine wvz (oI (RowP.up hrf _)) ?_;refine wvz (oF (Row.pt (RowP.up hrf z.h) hcy)) ?_;refine wvz (v := yb) (oM (Pt.fld (Row.pt (RowP.up hrf z.h) hcy) _ (nl rfl))) ?_;refine aq2 ?_;refine w_call rfl rfl (op_call rfl rfl rfl rfl) (ends_ref_P hS.ok (by rw [kinds, lmm]; exact hy4) (hkr.up _)) ?_;rintro r z ⟨hk, he⟩;have hS := hS.mov hk;have hK := hS.K;obtain ⟨ea, eb, rfl, hea⟩ := he.shape;refine aq9 ?_;refine wc_condT rfl (fun h39 => ?_) (fun h39 => ?_)
 ·simp only [Bool.not_eq_true'] at h39;refine aq1 ?_;exact ⟨_, rfl, hK, by rw [levsN_in hy, levY_no h39]; rfl, fun g hg => by cases hg⟩
 simp only [Bool.not_eq_false'] at h39;obtain ⟨⟨E, L⟩, hEL⟩ := Option.isSome_iff_exists.1 h39;obtain ⟨hrE, -⟩ := hea E L hEL;obtain ⟨hlE, -⟩ := ends1_len hEL;refine aq2 ?_;have hS := hS.nil 1;have hS : SH s [ptC (.ptr p0 0 0) [vp, vg, va, vc, vf], rowC .nils 1 (((List.range 0).map (levI x (k : Nat) y)).map uC)] z := hS;have hK := hS.K;refine aq0 ?_;refine wc_loop_at (fun jj m z => ∃ (i : Nat) (v9 : AV), jj = y.body.length - i ∧ i ≤ y.body.length ∧ m = [(1, .int .i64 (k : Nat)), (2, .ptr p0 0 0), (5, yb), (6, ea), (9, v9), (10, .int .i64 (i : Nat))] ∧ SH s [ptC (.ptr p0 0 0) [vp, vg, va, vc, vf], rowC v9 1 (((List.range i).map (levI x (k : Nat) y)).map uC)] z) y.body.length
  [(1, .int .i64 (k : Nat)), (2, .ptr p0 0 0), (5, yb), (6, ea), (9, .nils), (10, .int .i64 ((0 : Nat) : Int))] (scn rfl (scn rfl (scn rfl (scn rfl (scn rfl (scn rfl (Sub.nil _))))))) ⟨0, .nils, by simp, by simp, rfl, hS⟩ ?_
 clear hS hK;rintro jj m z ⟨i, v9, rfl, hi, rfl, hS⟩;have hK := hS.K;refine aq2 ?_;refine wvz (oN hsb) ?_;refine aq1 ?_;refine wcd (fun h43 => ?_) (fun h43 => ?_)
 ·refine aq0 ?_;obtain ⟨st, hst⟩ : ∃ st, y.body[i]? = some st := ⟨_, gee (by omega)⟩;obtain ⟨cst, hcst⟩ : ∃ c, csb[i]? = some c := ⟨_, gee (by omega)⟩;obtain ⟨vt, ve, rfl, hvt, hve⟩ := hbE i st cst hst hcst;have hki := kinds_at hst;refine aq1 ?_;refine wvz (v := vf) (oL 0 hS) ?_;refine aq1 ?_;refine wvz (oI (RowP.up hrf _)) ?_;refine wvz (oF (Row.pt (RowP.up hrf z.h) hcy)) ?_;refine wvz (v := .int .u64 ((y.level.toNat : Nat) : Int)) (by rw [u64_cast hyL]; exact op_load rfl rfl (Pt.fld (Row.pt (RowP.up hrf _) hcy) _ (nl rfl)) rfl) ?_;refine aq2 ?_;refine wc_loop_at (fun jj m z => ∃ q : Nat, jj = i - q ∧ q ≤ i ∧ m = [(1, .int .i64 (k : Nat)), (2, .ptr p0 0 0), (5, yb), (6, ea), (9, v9), (10, .int .i64 (i : Nat)), (11, .int .u64 ((exOr y.level.toNat (blkW x (k : Nat) y) ((List.range q).filter (insideB (kinds y) E i))) : Nat)), (12, .int .i64 (q : Nat))] ∧ SH s [ptC (.ptr p0 0 0) [vp, vg, va, vc, vf], rowC v9 1 (((List.range i).map (levI x (k : Nat) y)).map uC)] z) i
   [(1, .int .i64 (k : Nat)), (2, .ptr p0 0 0), (5, yb), (6, ea), (9, v9), (10, .int .i64 (i : Nat)), (11, .int .u64 ((exOr y.level.toNat (blkW x (k : Nat) y) ((List.range 0).filter (insideB (kinds y) E i))) : Nat)), (12, .int .i64 ((0 : Nat) : Int))] (scn rfl (scn rfl (scn rfl (scn rfl (scn rfl (scn rfl (scn rfl (scn rfl (Sub.nil _))))))))) ⟨0, by simp, by simp, rfl, hS⟩ ?_
  clear hS hK;rintro jj m z ⟨q, rfl, hq, rfl, hS⟩;have hK := hS.K;refine aq3 ?_;refine wcd (fun h54 => ?_) (fun h54 => ?_)
  ·obtain ⟨stq, hstq⟩ : ∃ st, y.body[q]? = some st := ⟨_, gee (by omega)⟩;obtain ⟨cq, hcq⟩ : ∃ c, csb[q]? = some c := ⟨_, gee (by omega)⟩;obtain ⟨vtq, veq, rfl, hvtq, hveq⟩ := hbE q stq cq hstq hcq;obtain ⟨cse, hre, hle, hTE⟩ := id hveq;have hse : veq.slen = some stq.exprs.length := by rw [hre.slen, hle]
   have hkq := kinds_at hstq;have hss := hy5 stq (mog hstq);have hss2 := hss.2.1;refine wc_skip ?_;refine then_n ?_
   repeat refine wc_seq ?_
   refine wc_block ?_
   repeat refine wc_seq ?_
   refine wc_cut (fun m z => ∃ bb, Sub [(1, .int .i64 (k : Nat)), (2, .ptr p0 0 0), (5, yb), (6, ea), (9, v9), (10, .int .i64 (i : Nat)), (11, .int .u64 ((exOr y.level.toNat (blkW x (k : Nat) y) ((List.range q).filter (insideB (kinds y) E i))) : Nat)), (12, .int .i64 (q : Nat)), (13, .bool bb)] m ∧ bb = ((stq.kind == 5 || stq.kind == 7) && decide ((i : Int) < E.getD q 0)) ∧ SH s [ptC (.ptr p0 0 0) [vp, vg, va, vc, vf], rowC v9 1 (((List.range i).map (levI x (k : Nat) y)).map uC)] z) ?_ ?_
   ·refine aq2 ?_;refine wvz (oI (RowP.up hbr _)) ?_;refine wvz (oF (Row.pt (RowP.up hbr _) hcq)) ?_;refine wvz (v := .int .i64 stq.kind) (oM (Pt.fld (Row.pt (RowP.up hbr _) hcq) _ (nl rfl))) ?_;refine aq2 ?_;refine w_split (i := 63) rfl (fun h63 => ?_) (fun h63 => ?_)
    ·simp only [beq_iff_eq] at h63;refine aq11 ?_;refine wvz (oJ (RowP.up hrE _)) ?_;refine wvz (v := .int .i64 (E.getD q 0)) (op_load rfl rfl (Row.mk_pt (RowP.up hrE _) (getD_at (by omega))) rfl) ?_;refine aq3 ?_;refine cut_n ?_;exact ⟨_, (scn rfl (scn rfl (scn rfl (scn rfl (scn rfl (scn rfl (scn rfl (scn rfl (scn rfl (Sub.nil _)))))))))), by
       skip
       rw [Bool.eq_iff_iff];simp only [Bool.and_eq_true, Bool.or_eq_true, beq_iff_eq, decide_eq_true_iff]
       all_goals omega, hS⟩
    simp only [bff, ne_eq] at h63;refine aq2 ?_;refine wvz (oI (RowP.up hbr _)) ?_;refine wvz (oF (Row.pt (RowP.up hbr _) hcq)) ?_;refine wvz (v := .int .i64 stq.kind) (oM (Pt.fld (Row.pt (RowP.up hbr _) hcq) _ (nl rfl))) ?_;refine aq3 ?_;refine w_split (i := 71) rfl (fun h71 => ?_) (fun h71 => ?_)
    ·simp only [beq_iff_eq] at h71;refine aq3 ?_;refine wvz (oJ (RowP.up hrE _)) ?_;refine wvz (v := .int .i64 (E.getD q 0)) (op_load rfl rfl (Row.mk_pt (RowP.up hrE _) (getD_at (by omega))) rfl) ?_;refine aq3 ?_;refine cut_n ?_;exact ⟨_, (scn rfl (scn rfl (scn rfl (scn rfl (scn rfl (scn rfl (scn rfl (scn rfl (scn rfl (Sub.nil _)))))))))), by
       skip
       rw [Bool.eq_iff_iff];simp only [Bool.and_eq_true, Bool.or_eq_true, beq_iff_eq, decide_eq_true_iff]
       all_goals omega, hS⟩
    simp only [bff, ne_eq] at h71;refine aq8 ?_;refine cut_n ?_;exact ⟨_, (scn rfl (scn rfl (scn rfl (scn rfl (scn rfl (scn rfl (scn rfl (scn rfl (scn rfl (Sub.nil _)))))))))), by
      skip
      rw [Bool.eq_iff_iff];simp only [Bool.and_eq_true, Bool.or_eq_true, beq_iff_eq, decide_eq_true_iff, Bool.false_eq_true, false_iff]
      all_goals omega, hS⟩
   clear hS hK;rintro m z ⟨b5, hm, hb5, hS⟩;have hK := hS.K;refine then_n ?_;refine wc_sub hm ?_
   repeat refine wc_seq ?_
   refine wc_cut (fun m z => ∃ bb, Sub [(1, .int .i64 (k : Nat)), (2, .ptr p0 0 0), (5, yb), (6, ea), (9, v9), (10, .int .i64 (i : Nat)), (11, .int .u64 ((exOr y.level.toNat (blkW x (k : Nat) y) ((List.range q).filter (insideB (kinds y) E i))) : Nat)), (12, .int .i64 (q : Nat)), (13, .bool b5), (98, .bool bb)] m ∧ bb = (st.kind == 6 && b5 && (E.getD i 0 == E.getD q 0)) ∧ SH s [ptC (.ptr p0 0 0) [vp, vg, va, vc, vf], rowC v9 1 (((List.range i).map (levI x (k : Nat) y)).map uC)] z) ?_ ?_
   ·refine aq0 ?_;refine wc_draw (fun _ => True) (by kernel_rfl) rfl ?_;refine aq2 ?_;refine wdv (oI (RowP.up hbr _)) ?_;refine wdv (oF (Row.pt (RowP.up hbr _) hcst)) ?_;refine wdv (v := .int .i64 st.kind) (oM (Pt.fld (Row.pt (RowP.up hbr _) hcst) _ (nl rfl))) ?_;refine aq2 ?_;refine wd_split (i := 85) rfl (fun h85 => ?_) (fun h85 => ?_)
    ·simp only [beq_iff_eq] at h85;refine aq3 ?_;refine wd_split (i := 88) rfl (fun h88 => ?_) (fun h88 => ?_)
     ·refine aq2 ?_;refine wdv (oJ (RowP.up hrE _)) ?_;refine wdv (v := .int .i64 (E.getD i 0)) (op_load rfl rfl (Row.mk_pt (RowP.up hrE _) (getD_at (by omega))) rfl) ?_;refine aq2 ?_;refine wdv (oJ (RowP.up hrE _)) ?_;refine wdv (v := .int .i64 (E.getD q 0)) (op_load rfl rfl (Row.mk_pt (RowP.up hrE _) (getD_at (by omega))) rfl) ?_;refine aq2 ?_;refine cut_n ?_;exact ⟨_, (scn rfl (scn rfl (scn rfl (scn rfl (scn rfl (scn rfl (scn rfl (scn rfl (scn rfl (scn rfl (Sub.nil _))))))))))), by
        rw [h88];rw [Bool.eq_iff_iff];simp only [Bool.and_true, Bool.and_eq_true, beq_iff_eq]
        all_goals omega, hS⟩
     refine aq10 ?_;refine cut_n ?_;exact ⟨_, (scn rfl (scn rfl (scn rfl (scn rfl (scn rfl (scn rfl (scn rfl (scn rfl (scn rfl (scn rfl (Sub.nil _))))))))))), by
       rw [h88];rw [Bool.eq_iff_iff];simp only [Bool.and_false, Bool.false_and, Bool.false_eq_true]
       all_goals omega, hS⟩
    simp only [bff, ne_eq] at h85;refine aq12 ?_;refine aq1 ?_;refine cut_n ?_;exact ⟨_, (scn rfl (scn rfl (scn rfl (scn rfl (scn rfl (scn rfl (scn rfl (scn rfl (scn rfl (scn rfl (Sub.nil _))))))))))), by
      skip
      rw [Bool.eq_iff_iff];simp only [Bool.and_eq_true, beq_iff_eq, Bool.false_eq_true, false_iff]
      all_goals omega, hS⟩
   clear hS hK;rintro m z ⟨b6, hm, hb6, hS⟩;have hK := hS.K;refine then_n ?_;refine wc_sub hm ?_;refine aq0 ?_;refine wc_condT rfl (fun h98 => ?_) (fun h98 => ?_)
   ·have hin : insideB (kinds y) E i q = false := by
     rw [h98] at hb6;have hb := hb6.symm;simp only [Bool.and_eq_true] at hb;rw [insideB, hki, hkq, ← hb5, hb.1.1, hb.2];simp
    refine aq3 ?_;refine wc_cond_t rfl ?_;refine aq1 ?_;refine wad ?_;refine aq1 ?_;have e1 : (exOr y.level.toNat (blkW x (k : Nat) y) ((List.range (q + 1)).filter (insideB (kinds y) E i))) = (exOr y.level.toNat (blkW x (k : Nat) y) ((List.range q).filter (insideB (kinds y) E i))) := by rw [filt_f hin]
    exact rn ⟨q + 1, rfl, by omega, by rw [e1], hS⟩
   refine aq2 ?_;refine wc_condT rfl (fun h100 => ?_) (fun h100 => ?_)
   ·simp only [Bool.not_eq_true'] at h100;have hin : insideB (kinds y) E i q = false := by rw [insideB, hki, hkq, ← hb5, h100]; rfl
    refine aq1 ?_;refine wad ?_;refine aq1 ?_;have e1 : (exOr y.level.toNat (blkW x (k : Nat) y) ((List.range (q + 1)).filter (insideB (kinds y) E i))) = (exOr y.level.toNat (blkW x (k : Nat) y) ((List.range q).filter (insideB (kinds y) E i))) := by rw [filt_f hin]
    exact rn ⟨q + 1, rfl, by omega, by rw [e1], hS⟩
   simp only [Bool.not_eq_false'] at h100;have hin : insideB (kinds y) E i q = true := by
    rw [h98, h100, Bool.and_true] at hb6;rw [insideB, hki, hkq, ← hb5, h100, Bool.true_and, ← hb6]
    rfl
   refine aq1 ?_;refine wc_loop_at (fun jj m z => ∃ n : Nat, jj = stq.exprs.length - n ∧ n ≤ stq.exprs.length ∧ m = [(1, .int .i64 (k : Nat)), (2, .ptr p0 0 0), (5, yb), (6, ea), (9, v9), (10, .int .i64 (i : Nat)), (11, .int .u64 ((cndL x (k : Nat) (stq.exprs.take n) (exOr y.level.toNat (blkW x (k : Nat) y) ((List.range q).filter (insideB (kinds y) E i)))) : Nat)), (12, .int .i64 (q : Nat)), (14, .int .i64 (n : Nat))] ∧ SH s [ptC (.ptr p0 0 0) [vp, vg, va, vc, vf], rowC v9 1 (((List.range i).map (levI x (k : Nat) y)).map uC)] z) stq.exprs.length
    [(1, .int .i64 (k : Nat)), (2, .ptr p0 0 0), (5, yb), (6, ea), (9, v9), (10, .int .i64 (i : Nat)), (11, .int .u64 ((cndL x (k : Nat) (stq.exprs.take 0) (exOr y.level.toNat (blkW x (k : Nat) y) ((List.range q).filter (insideB (kinds y) E i)))) : Nat)), (12, .int .i64 (q : Nat)), (14, .int .i64 ((0 : Nat) : Int))] (scn rfl (scn rfl (scn rfl (scn rfl (scn rfl (scn rfl (scn rfl (scn rfl (scn rfl (Sub.nil _)))))))))) ⟨0, by simp, by simp, rfl, hS⟩ ?_
   clear hS hK;rintro jj m z ⟨n, rfl, hn, rfl, hS⟩;have hK := hS.K;refine aq3 ?_;refine wvz (oI (RowP.up hbr _)) ?_;refine wvz (oF (Row.pt (RowP.up hbr _) hcq)) ?_;refine wvz (v := veq) (oM (Pt.fld (Row.pt (RowP.up hbr _) hcq) _ (nl rfl))) ?_;refine wvz (oN hse) ?_;refine aq1 ?_;refine wcd (fun h108 => ?_) (fun h108 => ?_)
   ·refine aq0 ?_;obtain ⟨ts, hts⟩ : ∃ d, stq.exprs[n]? = some d := ⟨_, gee (by omega)⟩;obtain ⟨ct, hct⟩ : ∃ c, cse[n]? = some c := ⟨_, gee (by omega)⟩;obtain ⟨tv, rfl, htv⟩ := hTE n ts ct hts hct;have hR := Keep.refl (s := z) (hK.ok);refine wc_draw (Old z []) (by kernel_rfl) rfl ?_;refine wol hR (v := .agg [vp, vg, va, vc, vf]) ((hS.pt 0 rfl).at (o := 0) (Nat.zero_le _)) (fun _ _ h => by cases h) ?_;refine aq3 ?_;refine wov (oI (RowP.up hbr _)) ?_;refine wov (oF (Row.pt (RowP.up hbr _) hcq)) ?_;refine wol hR (v := veq) (Pt.fld (Row.pt (RowP.up hbr _) hcq) _ (nl rfl)) (no_gs (fld_gs (RowP.egs hbr _))) ?_;refine aq1 ?_;refine wov (oI (RowP.up hre _)) ?_;refine wol hR (v := tv) (Row.pt (RowP.up hre _) hct) (no_gs (RowP.egs hre _)) ?_;refine woc hR (expr_ref_ok hR.ok hx hfi hv hy (hss.2.2 ts (mog hts)) htv) ?_;rintro _ sQ ⟨-, rfl⟩ hR;refine aq5 ?_;have hS := hS.mov hR;generalize St.mk sQ.ctr z.h sQ.wr = z at hS ⊢;refine aq2 ?_;refine wvz (v := .int .u64 (orI ((cndL x (k : Nat) (stq.exprs.take n) (exOr y.level.toNat (blkW x (k : Nat) y) ((List.range q).filter (insideB (kinds y) E i)))) : Nat) (exN x (k : Nat) ts : Nat))) (op_bin rfl rfl rfl) ?_;refine aq2 ?_;refine wad ?_;refine aq1 ?_;have e6 : (((cndL x (k : Nat) (stq.exprs.take (n + 1)) (exOr y.level.toNat (blkW x (k : Nat) y) ((List.range q).filter (insideB (kinds y) E i)))) : Nat) : Int) = orI ((cndL x (k : Nat) (stq.exprs.take n) (exOr y.level.toNat (blkW x (k : Nat) y) ((List.range q).filter (insideB (kinds y) E i)))) : Nat) (exN x (k : Nat) ts : Nat) := by
     rw [cndL_snoc hts, orI_nat (cndL_64 hfi _ _ (exOr_64 (lv := 0) (blkW_64 hfi _ _) _ (by have := hyL.1; have := hyL.2; omega))) (exN_64 hfi _ _)]
    exact rn ⟨n + 1, rfl, by omega, by rw [e6], hS⟩
   obtain rfl : n = stq.exprs.length := by omega
   refine aq1 ?_;refine wad ?_;refine aq1 ?_;have e1 : (exOr y.level.toNat (blkW x (k : Nat) y) ((List.range (q + 1)).filter (insideB (kinds y) E i))) = (cndL x (k : Nat) (stq.exprs.take stq.exprs.length) (exOr y.level.toNat (blkW x (k : Nat) y) ((List.range q).filter (insideB (kinds y) E i)))) := by rw [filt_t hin, exOr_snoc, blkW_at hstq, ← cndL_from, List.take_length]
   exact rn ⟨q + 1, rfl, by omega, by rw [e1], hS⟩
  obtain rfl : q = i := by omega
  refine aq2 ?_;refine ws_lit1 hS rfl rfl rfl rfl rfl rfl rfl rfl (by decide) (by decide) rfl (by rfl) rfl ?_;rintro lt130 z hS hk hlt130;refine ws_append 1 hS rfl rfl rfl rfl rfl rfl rfl rfl rfl rfl rfl (by decide) (hlt130) (by (simp [maxBytes]; omega)) (by (simp [maxBytes]; omega)) ?_;rintro at131 z hS;have hS : SH _ [_, _] z _ := hS;refine aq1 ?_;have hS : SH s [ptC (.ptr p0 0 0) [vp, vg, va, vc, vf], rowC at131 1 (((List.range (q + 1)).map (levI x (k : Nat) y)).map uC)] z := by
   rw [← lev_map, ← uC_map, ← levI_filt hEL (by omega)]; exact hS
  refine aq1 ?_;refine wad ?_;refine aq1 ?_;exact rn ⟨q + 1, _, rfl, by omega, rfl, hS⟩
 obtain rfl : i = y.body.length := by omega
 refine aq2 ?_;exact ⟨_, rfl, hK, by rw [levsN_in hy, levY_yes h39]; exact hS.row 1 rfl, fun g hg => (hS.bd 1 rfl g hg).1⟩
end Go.Ab
namespace Go.Ab
open Go.Proofs
def bitI (a : Int) (k : Nat) : Int := IntKind.u64.wrap ((BitVec.ofInt 64 (a.fdiv (2 ^ (min k 64))) &&& BitVec.ofInt 64 1).toNat : Int)
theorem bitI_nat {n : Nat} (hn : n < 2 ^ 64) {k : Nat} (hk : k < 64) : bitI n k = if n.testBit k then 1 else 0 := by
 have h := hasI_nat hn hk;have h1 : hasI n k = (bitI n k == 1) := rfl;have h2 : 0 ≤ bitI n k ∧ bitI n k ≤ 1 := by
  unfold bitI;rw [wrapNat (BitVec.isLt _)];have : BitVec.ofInt 64 1 = 1#64 := rfl;rw [this, BitVec.toNat_and];have := @Nat.and_le_right (BitVec.toNat (BitVec.ofInt 64 ((n : Int).fdiv (2 ^ (min k 64))))) (BitVec.toNat 1#64);have e : BitVec.toNat 1#64 = 1 := rfl;omega
 rw [h1] at h;split
 ·rename_i ht;rw [ht, beq_iff_eq] at h;exact h
 ·rename_i ht;rw [Bool.not_eq_true] at ht;rw [ht, bff] at h;omega
theorem wN_bits {a b : Nat} (ha : a < 2 ^ 64) : wN a b = true ↔ ∀ k, k < 64 → a.testBit k = true → b.testBit k = true := by
 unfold wN;rw [decide_eq_true_iff]
 constructor
 ·intro h k _ hk;rw [← h, Nat.testBit_or, hk]; rfl
 ·intro h;refine Nat.eq_of_testBit_eq fun k => ?_;rw [Nat.testBit_or];by_cases hk : k < 64
  ·cases e : a.testBit k with
   | false => rfl
   | true => rw [h k hk e]; rfl
  ·have h64 : 2 ^ 64 ≤ 2 ^ k := Nat.pow_le_pow_right (by omega) (by omega);rw [Nat.testBit_lt_two_pow (Nat.lt_of_lt_of_le ha h64)]; rfl
theorem within_ref_ok {s : St} {a b : Nat} (hok : s.Ok) (ha : a < 2 ^ 64) (hb : b < 2 ^ 64) :
  CallS Try.prog Tt Kt 74 [.int .u64 (a : Nat), .int .u64 (b : Nat)] s fun r s' => Keep [] s s' ∧ r = .bool (wN a b) := by
 refine cof 24 Try.func74 ?_;refine aq0 ?_;have hS := SH.start hok;have hK := hS.K;refine aq2 ?_;refine wc_loop_at (fun jj m z => ∃ k : Nat, jj = 64 - k ∧ k ≤ 64 ∧ m = [(0, .int .u64 (a : Nat)), (1, .int .u64 (b : Nat)), (5, .int .i64 (k : Nat))] ∧ Keep [] s z ∧ ∀ j, j < k → a.testBit j = true → b.testBit j = true) 64
  [(0, .int .u64 (a : Nat)), (1, .int .u64 (b : Nat)), (5, .int .i64 ((0 : Nat) : Int))] (scn rfl (scn rfl (scn rfl (Sub.nil _)))) ⟨0, rfl, by omega, rfl, hK, fun j h => by omega⟩ ?_
 clear hS hK;rintro jj m z ⟨k, rfl, hk, rfl, hK, hq⟩;refine aq2 ?_;refine wcd (fun h7 => ?_) (fun h7 => ?_)
 ·refine aq2 ?_;refine wvz (op_cv (r := (k : Nat)) rfl rfl rfl rfl rfl (wrapU64 (by omega) (by omega))) ?_;refine wvz (op_bin rfl rfl (shr_u64 k)) ?_;refine wvz (v := .int .u64 (bitI (a : Nat) k)) (op_bin rfl rfl rfl) ?_;refine wvz (v := .bool (bitI (a : Nat) k == 1)) (op_bin rfl rfl rfl) ?_;refine aq1 ?_;refine w_split (i := 16) rfl (fun h16 => ?_) (fun h16 => ?_)
  ·rw [beq_iff_eq, bitI_nat ha (by omega)] at h16;refine aq2 ?_;refine wvz (op_cv (r := (k : Nat)) rfl rfl rfl rfl rfl (wrapU64 (by omega) (by omega))) ?_;refine wvz (op_bin rfl rfl (shr_u64 k)) ?_;refine wvz (v := .int .u64 (bitI (b : Nat) k)) (op_bin rfl rfl rfl) ?_;refine wvz (v := .bool (bitI (b : Nat) k == 0)) (op_bin rfl rfl rfl) ?_;refine aq1 ?_;refine wc_condT rfl (fun h23 => ?_) (fun h23 => ?_)
   ·rw [beq_iff_eq, bitI_nat hb (by omega)] at h23;refine aq1 ?_;refine ⟨_, rfl, hK, congrArg AV.bool ?_⟩;cases e : wN a b with
    | false => rfl
    | true =>
     have := (wN_bits ha).1 e k (by omega) (by split at h16 <;> simp_all);rw [this] at h23;simp at h23
   rw [bff, bitI_nat hb (by omega)] at h23;refine aq1 ?_;refine wad ?_;refine aq1 ?_;exact rn ⟨k + 1, rfl, by omega, rfl, hK, fun j hj ht => (lsl.1 hj).elim (fun h => hq j h ht) fun e => by rw [e]; split at h23 <;> simp_all⟩
  rw [bff, bitI_nat ha (by omega)] at h16;refine aq7 ?_;refine wc_cond_f rfl ?_;refine aq1 ?_;refine wad ?_;refine aq1 ?_;exact rn ⟨k + 1, rfl, by omega, rfl, hK, fun j hj ht => (lsl.1 hj).elim (fun h => hq j h ht) fun e => by rw [e] at ht; rw [ht] at h16; simp at h16⟩
 obtain rfl : k = 64 := by omega
 refine aq1 ?_;exact ⟨_, rfl, hK, congrArg AV.bool ((wN_bits ha).2 hq).symm⟩
end Go.Ab
namespace Go.Ab
open Go.Proofs
theorem within_n {s : St} {a b : Nat} (hok : s.Ok) (ha : a < 2 ^ 64) (hb : b < 2 ^ 64) : CallS Try.prog Tt Kt 63 [.int .u64 (a : Nat), .int .u64 (b : Nat)] s fun r s' => Keep [] s s' ∧ r = .bool (wN a b) :=
 (within_ok hok).mono fun r z' h => ⟨h.1, by rw [h.2, wI_nat ha hb]; rfl⟩
theorem want_ok {s : St} {c9 c7 : Nat} {al : Bool} {lv l w : Nat} (hok : s.Ok) (h9 : Pt s.h (.ptr c9 0 0) [.bool al]) (hp7 : Pt s.h (.ptr c7 0 0) [.int .u64 (lv : Nat)]) (hl : l < 2 ^ 64) (hlv : lv < 2 ^ 64) (hw : w < 2 ^ 64) :
  CallS Try.prog Tt Kt 62 [.int .u64 (l : Nat), .int .u64 (w : Nat), .ptr c9 0 0, .ptr c7 0 0] s fun r s' => Keep [c9] s s' ∧ Pt s'.h (.ptr c9 0 0) [.bool (al && wN (l ||| lv) w)] ∧ r = .tup [] := by
 refine cof 15 Try.func62 ?_;have hS := SH.startX hok h9;have hK := hS.K;refine aq0 ?_;refine wvz (v := .bool al) (oL 0 hS) ?_;refine aq1 ?_;refine w_split (i := 7) rfl (fun h7 => ?_) (fun h7 => ?_)
 ·refine aq1 ?_;refine wvz (v := .int .u64 (lv : Nat)) (oM hp7) ?_;refine w_litT (c := [.int .u64 (l : Nat), .int .u64 (lv : Nat)]) [[.int .u64 (l : Nat)], [.int .u64 (lv : Nat)]] hS rfl rfl rfl rfl rfl rfl rfl (by decide) (by decide) rfl rfl rfl (by intro c hc; simp only [List.mem_cons, nmn, or_false] at hc; rcases hc with rfl | rfl <;> exact ⟨rfl, rfl⟩) rfl ?_;rintro lv1 r z hr hS;have hS : SH _ [_] z _ := hS;refine w_call rfl rfl (op_call rfl rfl rfl rfl) ((join_ok (ls := [(l : Nat), (lv : Nat)]) hS.ok (by simp) hr)) ?_;rintro _ z ⟨hk, rfl⟩;have hS := hS.mov hk;rw [join_two hl hlv];refine aq1 ?_;refine wkz (within_n hS.ok (or64 hl hlv) hw) ?_;rintro _ z ⟨hk, rfl⟩;have hS := hS.mov hk;have hK := hS.K;refine aq1 ?_
  first | refine ws_storeL 0 hS rfl rfl rfl rfl rfl rfl (by first | rfl | assumption | exact Row.leaf (by assumption)) (nl rfl) ?_ | refine ws_store 0 hS rfl rfl rfl rfl rfl rfl (by first | rfl | assumption | exact Row.leaf (by assumption)) (nl rfl) ?_
  rintro z hS;have hS : SH _ [_] z _ := hS;refine aq0 ?_;exact ⟨_, rfl, hS.K, by rw [h7]; exact hS.pt 0 rfl, rfl⟩
 refine aq7 ?_
 first | refine ws_storeL 0 hS rfl rfl rfl rfl rfl rfl (by first | rfl | assumption | exact Row.leaf (by assumption)) (nl rfl) ?_ | refine ws_store 0 hS rfl rfl rfl rfl rfl rfl (by first | rfl | assumption | exact Row.leaf (by assumption)) (nl rfl) ?_
 rintro z hS;have hS : SH _ [_] z _ := hS;refine aq0 ?_;exact ⟨_, rfl, hS.K, by rw [h7]; exact hS.pt 0 rfl, rfl⟩
theorem lab_ok {s : St} {c4 c5 : Nat} {c : List AV} {x : SrcL} {k : Nat} {y : FunL} {nm : ByteArray} (hok : s.Ok) (hx : x.small) (hfi : x.fine) (hv : SrcP x c) (hy : x.funcs[k]? = some y) (h4 : Pt s.h (.ptr c4 0 0) c) (h5 : Pt s.h (.ptr c5 0 0) [.int .i64 (k : Nat)]) :
  CallS Try.prog Tt Kt 64 [.str nm, .ptr c4 0 0, .ptr c5 0 0] s fun r s' => Keep [] s s' ∧ r = .int .u64 (nmL x (k : Nat) nm : Nat) := by
 obtain ⟨vp, vg, va, vc, vf, hc, -⟩ := id hv;subst hc;refine cof 18 Try.func64 ?_;refine aq0 ?_;have hS := SH.start hok;have hK := hS.K;refine aq1 ?_;obtain ⟨⟨a, b⟩, hp⟩ : ∃ p, fN x (k : Nat) nm = p := ⟨_, rfl⟩;have hcall : ∀ {s' : St}, s'.Ok → CallS Try.prog Tt Kt 65 [.agg [vp, vg, va, vc, vf], .int .i64 (k : Nat), .str nm] s' fun r z' => Keep [] s' z' ∧ r = .tup [.agg [.int .i64 a, .int .i64 b], .bool (a != 0)] := fun ho => (find_ok ho hx hv).mono fun r z' h => ⟨h.1, by rw [h.2, hp]; rfl⟩;refine aq0 ?_;refine wvz (v := .agg [vp, vg, va, vc, vf]) (oM (Pt.keep0 h4 hK)) ?_;refine wvz (v := .int .i64 (k : Nat)) (oM (Pt.keep0 h5 hK)) ?_;refine aq1 ?_;refine wkz (hcall hS.ok) ?_;rintro _ z ⟨hk, rfl⟩;have hS := hS.mov hk;refine aq3 ?_;refine ws_alloc hS rfl rfl rfl rfl ?_;rintro p5 z hS hk;have hS : SH _ [_] z _ := hS;have hK := hS.K
 first | refine ws_storeL 0 hS rfl rfl rfl rfl rfl rfl (by first | rfl | assumption | exact Row.leaf (by assumption)) (nl rfl) ?_ | refine ws_store 0 hS rfl rfl rfl rfl rfl rfl (by first | rfl | assumption | exact Row.leaf (by assumption)) (nl rfl) ?_
 rintro z hS;have hS : SH _ [_] z _ := hS;have hK := hS.K;refine aq1 ?_;refine wvz (v := .agg [vp, vg, va, vc, vf]) (oM (Pt.keep0 h4 hK)) ?_;refine wvz (v := .int .i64 (k : Nat)) (oM (Pt.keep0 h5 hK)) ?_;refine wvz (v := .agg [.int .i64 a, .int .i64 b]) (oL 0 hS) ?_;refine wkz (of_ok hS.ok hx hfi hv hy hp) ?_;rintro _ z ⟨hk, rfl⟩;have hS := hS.mov hk;have hK := hS.K;refine aq1 ?_;exact ⟨_, rfl, hK, by rw [nmL, hp]; rfl⟩
end Go.Ab
namespace Go.Ab
open Go.Proofs
theorem all_succ (p : Nat → Bool) (i : Nat) : (List.range (i + 1)).all p = ((List.range i).all p && p i) := by
 rw [List.range_succ, List.all_append]; simp
theorem uC_lC (l : List Nat) : l.map uC = (l.map fun n => ((n : Nat) : Int)).map lC := by rw [List.map_map]; rfl
theorem getD_at' {l : List Nat} {i : Nat} (h : i < l.length) : l[i]? = some (l.getD i 0) := by
 rw [gdd, gee h]; rfl
theorem lsN_len (s : SrcL) (f : Int) (x : StmtL) : (lsN s f x).length = x.exprs.length := by rw [lsN, lmm]
theorem lsN_snoc {s : SrcL} {f : Int} {x : StmtL} {i : Nat} {e : List TermL} (h : x.exprs[i]? = some e) : (lsN s f x).take (i + 1) = (lsN s f x).take i ++ [exN s f e] := by
 rw [← take_snoc (x := exN s f e)];rw [lsN, gmm, h]; rfl
theorem ls_two {l : List Nat} (h : l.length = 2) : l = [l.getD 0 0, l.getD 1 0] := by
 match l, h with
 | [a, b], _ => rfl
theorem wN_two (a b lv t : Nat) : wN (a ||| b ||| lv) t = (wN (a ||| lv) t && wN (b ||| lv) t) := by
 rw [wN_or, wN_or, wN_or, wN_or];cases wN a t <;> cases wN b t <;> cases wN lv t <;> rfl
theorem declL_at {l : List DeclL} {i : Nat} {d : DeclL} (h : l[i]? = some d) : (l.map DeclL.label).getD i 0 = d.label := by
 rw [gdd, gmm, h]; rfl
theorem res_at {l : List Int} {i : Nat} {d : Int} (h : l[i]? = some d) : l.getD i 0 = d := by
 rw [gdd, h]; rfl
theorem tgt_at {l : List ByteArray} {i : Nat} {d : ByteArray} (h : l[i]? = some d) : l.getD i ByteArray.empty = d := by
 rw [gdd, h]; rfl
theorem u64_lt {a : Int} (h : U64 a) : a.toNat < 2 ^ 64 := by have := h.1; have := h.2; omega
theorem keeps_ok {s : St} {c sc : List AV} {x : SrcL} {k : Nat} {y : FunL} {st : StmtL} {lv : Nat} (hok : s.Ok) (hx : x.small) (hfi : x.fine) (hv : SrcP x c) (hy : x.funcs[k]? = some y) (hsr : StmtR .leaf st sc) (hss : st.small) (hio : InO x k y st) (hlv : lv < 2 ^ 64) :
  CallS Try.prog Tt Kt 27 [.agg c, .int .i64 (k : Nat), .agg sc, .int .u64 (lv : Nat)] s fun r s' => Keep [] s s' ∧ r = .bool (keptK x k y st lv) := by
 have hz := hv.leaf;obtain ⟨vp, vg, va, vc, vf, rfl, hvp, hvg, hva, hvc, csf, hrf, hlf, hF⟩ := id hv;obtain ⟨hl1, hl2, hl3, hl4, hl5, hsm⟩ := id hx;have hsf : vf.slen = some x.funcs.length := by rw [hrf.slen, hlf]
 have hkl := (ges.1 hy).1;obtain ⟨cy, hcy⟩ : ∃ c, csf[k]? = some c := ⟨_, gee (by omega)⟩;obtain ⟨yp, yr, yv, yb, rfl, hyp, hyr, hyv, hyb⟩ := hF k y cy hy hcy;obtain ⟨hy1, hy2, hy3, hy4, hy5⟩ := id (hsm y (mog hy));have hyf := hfi.2.2.2.2 y (mog hy);have hsp : yp.slen = some y.params.length := by rw [hyp.slen, lmm]
 obtain ⟨csb, hbr, hbl, hbE⟩ := id hyb;obtain ⟨vt, ve, rfl, hvt, hve⟩ := id hsr;obtain ⟨cse, hre, hle, hTE⟩ := id hve;have hse : ve.slen = some st.exprs.length := by rw [hre.slen, hle]
 have hst1 : vt.slen = some st.targets.length := by rw [hvt.slen, lmm]
 have hzs : ([.int .i64 st.kind, .str st.name, vt, ve] : List AV).all AV.leaf = true := by
  simp only [List.all_cons, List.all_nil, hvt.leaf, hre.leaf]; rfl
 have hss2 := hss.2.1;have hss1 := hss.1;have hln := lsN_len x (k : Nat) st;refine cof 162 Try.func27 ?_;refine aq0 ?_;have hS := SH.start hok;refine aq0 ?_;refine ws_box hS rfl rfl rfl hz ?_;rintro p0 z hS hk;have hS : SH _ [_] z _ := hS;refine ws_box hS rfl rfl rfl (by rfl) ?_;rintro p1 z hS hk;have hS : SH _ [_, _] z _ := hS;refine ws_box hS rfl rfl rfl hzs ?_;rintro p2 z hS hk;have hS : SH _ [_, _, _] z _ := hS;refine ws_box hS rfl rfl rfl (by rfl) ?_;rintro p3 z hS hk;have hS : SH _ [_, _, _, _] z _ := hS;refine aq1 ?_;refine ws_alloc hS rfl rfl rfl rfl ?_;rintro p9 z hS hk;have hS : SH _ [_, _, _, _, _] z _ := hS;refine ws_storeL 4 hS rfl rfl rfl rfl rfl rfl (by rfl) (nl rfl) ?_;rintro z hS;have hS : SH _ [_, _, _, _, _] z _ := hS;refine aq5 ?_;have hS := hS.nil 1;have hS : SH s [ptC (.ptr p0 0 0) [vp, vg, va, vc, vf], ptC (.ptr p1 0 0) [.int .i64 (k : Nat)], ptC (.ptr p2 0 0) [.int .i64 st.kind, .str st.name, vt, ve], ptC (.ptr p3 0 0) [.int .u64 (lv : Nat)], ptC (.ptr p9 0 0) [.bool (true)], rowC .nils 1 (((lsN x (k : Nat) st).take 0).map uC)] z := hS;have hK := hS.K;refine aq1 ?_;refine wvz (v := ve) (oL 2 hS) ?_;refine wvz (oN hse) ?_;refine aq1 ?_;refine wc_loop_at (fun jj m z => ∃ (i : Nat) (v : AV), jj = st.exprs.length - i ∧ i ≤ st.exprs.length ∧ m = [(4, .ptr p0 0 0), (5, .ptr p1 0 0), (6, .ptr p2 0 0), (9, .ptr p9 0 0), (10, .fn 62 [.ptr p9 0 0, .ptr p3 0 0]), (11, .fn 64 [.ptr p0 0 0, .ptr p1 0 0]), (12, v), (29, ve), (30, .int .i64 (st.exprs.length : Nat)), (31, .int .i64 (i : Nat))] ∧ SH s [ptC (.ptr p0 0 0) [vp, vg, va, vc, vf], ptC (.ptr p1 0 0) [.int .i64 (k : Nat)], ptC (.ptr p2 0 0) [.int .i64 st.kind, .str st.name, vt, ve], ptC (.ptr p3 0 0) [.int .u64 (lv : Nat)], ptC (.ptr p9 0 0) [.bool (true)], rowC v 1 (((lsN x (k : Nat) st).take i).map uC)] z) st.exprs.length
  [(4, .ptr p0 0 0), (5, .ptr p1 0 0), (6, .ptr p2 0 0), (9, .ptr p9 0 0), (10, .fn 62 [.ptr p9 0 0, .ptr p3 0 0]), (11, .fn 64 [.ptr p0 0 0, .ptr p1 0 0]), (12, .nils), (29, ve), (30, .int .i64 (st.exprs.length : Nat)), (31, .int .i64 ((0 : Nat) : Int))] (scn rfl (scn rfl (scn rfl (scn rfl (scn rfl (scn rfl (scn rfl (scn rfl (scn rfl (scn rfl (Sub.nil _))))))))))) ⟨0, .nils, by simp, by simp, rfl, hS⟩ ?_
 clear hS hK;rintro jj m z ⟨i, v, rfl, hi, rfl, hS⟩;refine aq1 ?_;refine wcd (fun h32 => ?_) (fun h32 => ?_)
 ·refine aq0 ?_;obtain ⟨ts, hts⟩ : ∃ d, st.exprs[i]? = some d := ⟨_, gee (by omega)⟩;obtain ⟨ct, hct⟩ : ∃ c, cse[i]? = some c := ⟨_, gee (by omega)⟩;obtain ⟨tv, rfl, htv⟩ := hTE i ts ct hts hct;refine aq0 ?_;refine wvz (oI (RowP.up hre _)) ?_;refine wvz (v := tv) (oM (Row.pt (RowP.up hre _) hct)) ?_;refine aq1 ?_;refine wvz (v := .agg [vp, vg, va, vc, vf]) (oL 0 hS) ?_;refine wvz (v := .int .i64 (k : Nat)) (oL 1 hS) ?_;refine aq1 ?_;refine wkz (expr_ok hS.ok hx hfi hv hy (hss.2.2 ts (mog hts)) htv) ?_;rintro _ z ⟨hk, rfl⟩;have hS := hS.mov hk;refine aq7 ?_;refine ws_lit1 hS rfl rfl rfl rfl rfl rfl rfl rfl (by decide) (by decide) rfl (by rfl) rfl ?_;rintro lt44 z hS hk hlt44;refine ws_append 5 hS rfl rfl rfl rfl rfl rfl rfl rfl rfl rfl rfl (by decide) (hlt44) (by (simp only [lmm, lnn, lcc, List.length_take, maxBytes]; omega)) (by (simp only [lmm, lnn, lcc, List.length_take, maxBytes]; omega)) ?_;rintro at45 z hS;have hS : SH _ [_, _, _, _, _, _] z _ := hS;refine aq1 ?_;refine wad ?_;refine aq1 ?_;have hS : SH s [ptC (.ptr p0 0 0) [vp, vg, va, vc, vf], ptC (.ptr p1 0 0) [.int .i64 (k : Nat)], ptC (.ptr p2 0 0) [.int .i64 st.kind, .str st.name, vt, ve], ptC (.ptr p3 0 0) [.int .u64 (lv : Nat)], ptC (.ptr p9 0 0) [.bool (true)], rowC at45 1 (((lsN x (k : Nat) st).take (i + 1)).map uC)] z := by rw [lsN_snoc hts, ← uC_map]; exact hS
  exact rn ⟨i + 1, at45, rfl, by omega, rfl, hS⟩
 obtain rfl : i = st.exprs.length := by omega
 refine wc_exit ?_
 repeat first | refine then_x ?_ | refine round_x ?_ | refine cut_x ?_ | refine out_x' (by decide) ?_
 refine out_x ?_;refine then_n ?_
 repeat refine wc_seq ?_
 refine wcs_told 5 12 hS rfl rfl (fun r12 hr12 hS => ?_);generalize z.drop v.gs = z at hS ⊢;rw [List.take_of_length_le (by rw [lsN_len]; omega)] at hr12;have hS : SH s [ptC (.ptr p0 0 0) [vp, vg, va, vc, vf], ptC (.ptr p1 0 0) [.int .i64 (k : Nat)], ptC (.ptr p2 0 0) [.int .i64 st.kind, .str st.name, vt, ve], ptC (.ptr p3 0 0) [.int .u64 (lv : Nat)], ptC (.ptr p9 0 0) [.bool (true)], emC] z := hS;have hK := hS.K;have hr12l : r12.slen = some st.exprs.length := by rw [hr12.slen, lmm, lsN_len]
 have hfit := hio.fit;unfold fitK at hfit;have h6 : p2 ≠ p9 := hS.ne (i := 2) (j := 4) (by decide) rfl rfl (msi.2 rfl) (msi.2 rfl);have h4 : p0 ≠ p9 := hS.ne (i := 0) (j := 4) (by decide) rfl rfl (msi.2 rfl) (msi.2 rfl);refine aq1 ?_;refine wvz (v := .int .i64 st.kind) (oL 2 hS) ?_;refine w_nil ?_;refine then_n ?_
 repeat refine wc_seq ?_
 refine wc_cut (fun m z => Sub [(9, .ptr p9 0 0)] m ∧ SH s [ptC (.ptr p0 0 0) [vp, vg, va, vc, vf], ptC (.ptr p1 0 0) [.int .i64 (k : Nat)], ptC (.ptr p2 0 0) [.int .i64 st.kind, .str st.name, vt, ve], ptC (.ptr p3 0 0) [.int .u64 (lv : Nat)], ptC (.ptr p9 0 0) [.bool (keptK x k y st lv)]] z) ?_ ?_
 ·refine aq2 ?_;refine wcb (fun h49 => ?_) (fun h49 => ?_)
  ·obtain ⟨tn, htn⟩ : ∃ d, st.targets[0]? = some d := ⟨_, gee (by omega)⟩;have hR := Keep.refl (s := z) (hK.ok);refine wc_draw (Old z [p9]) (by kernel_rfl) rfl ?_;refine aq2 ?_;refine wov (op_idxF rfl rfl rfl rfl rfl rfl rfl (RowP.up hr12 _) (by omega)) ?_;refine wo_load hR (v := .int .u64 ((lsN x (k : Nat) st).getD 0 0 : Nat)) rfl rfl (Row.mk_pt (RowP.up hr12 _) (getD_at' (by omega))) rfl (no_gs (RowP.egs hr12 _)) rfl rfl ?_;refine aq2 ?_;refine wo_load hR (v := vt) rfl rfl ((hS.pt 2 rfl).at (nl rfl)) rfl ((by simp [AV.gs, h6])) rfl rfl ?_;refine wov (op_idxF rfl rfl rfl rfl rfl rfl rfl (RowP.up hvt _) (by omega)) ?_;refine wol hR (v := .str tn) (Row.mk_pt (RowP.up hvt _) htn) (no_gs (RowP.egs hvt _)) ?_;refine woc hR (lab_ok hR.ok hx hfi hv hy (Pt.bare ((hS.pt 0 rfl).keep0 hR)) (Pt.bare ((hS.pt 1 rfl).keep0 hR))) ?_;rintro _ sA ⟨-, rfl⟩ hR;refine wo_callX hR (fun _ h => h) rfl rfl (fun _ => rfl) (op_call rfl rfl rfl rfl) (want_ok (l := (lsN x (k : Nat) st).getD 0 0) (w := nmL x (k : Nat) tn) hR.ok (Pt.bare ((hS.pt 4 rfl).keep0 hR)) (Pt.bare ((hS.pt 3 rfl).keep0 hR)) (lsN_64 hfi _ _ _) hlv (labN_64 hfi _ _)) (fun _ _ h => h.1) ?_;rintro _ sB ⟨-, hpX, rfl⟩ hkX;refine aq0 ?_;have hS := (hS.mov hR).upd 4 rfl hkX (fun g hg => hg) (ptC (.ptr p9 0 0) [.bool _]) hpX (fun g hg => .inl hg);have hS : SH s [ptC (.ptr p0 0 0) [vp, vg, va, vc, vf], ptC (.ptr p1 0 0) [.int .i64 (k : Nat)], ptC (.ptr p2 0 0) [.int .i64 st.kind, .str st.name, vt, ve], ptC (.ptr p3 0 0) [.int .u64 (lv : Nat)], ptC (.ptr p9 0 0) [.bool (true && wN ((lsN x (k : Nat) st).getD 0 0 ||| lv) (nmL x (k : Nat) tn))], _] _ := hS;refine aq0 ?_;refine cut_n ?_;exact ⟨(scn rfl (Sub.nil _)), by rw [keptK, if_pos h49, tgt_at htn]; exact hS.sub (.cons_cons _ (.cons_cons _ (.cons_cons _ (.cons_cons _ (.cons_cons _ (.cons _ (.refl _)))))))⟩
  refine aq2 ?_;refine wcb (fun h62 => ?_) (fun h62 => ?_)
  ·have hlt := ls_two (l := lsN x (k : Nat) st) (by omega);have hjn : joinL ((lsN x (k : Nat) st).map fun n => ((n : Nat) : Int)) = ((((lsN x (k : Nat) st).getD 0 0 ||| (lsN x (k : Nat) st).getD 1 0 : Nat)) : Int) := by
    conv => lhs; rw [hlt]
    exact join_two (lsN_64 hfi _ _ _) (lsN_64 hfi _ _ _)
   have hjcall : ∀ {s' : St}, s'.Ok → CallS Try.prog Tt Kt 61 [r12] s' fun r z' => Keep [] s' z' ∧ r = .int .u64 (((lsN x (k : Nat) st).getD 0 0 ||| (lsN x (k : Nat) st).getD 1 0 : Nat) : Int) := fun ho => (join_ok (ls := (lsN x (k : Nat) st).map fun n => ((n : Nat) : Int)) ho (by rw [lmm]; omega) (by rw [← uC_lC]; exact hr12)).mono fun r z' h => ⟨h.1, by rw [h.2, hjn]⟩;have hR := Keep.refl (s := z) (hK.ok);refine wc_draw (Old z [p9]) (by kernel_rfl) rfl ?_;refine aq2 ?_;refine woc hR (hjcall hR.ok) ?_;rintro _ sA ⟨-, rfl⟩ hR;refine aq2 ?_;refine wo_load hR (v := .str st.name) rfl rfl ((hS.pt 2 rfl).at (nl rfl)) rfl ((by simp [AV.gs, h6])) rfl rfl ?_;refine woc hR (lab_ok hR.ok hx hfi hv hy (Pt.bare ((hS.pt 0 rfl).keep0 hR)) (Pt.bare ((hS.pt 1 rfl).keep0 hR))) ?_;rintro _ sB ⟨-, rfl⟩ hR;refine wo_callX hR (fun _ h => h) rfl rfl (fun _ => rfl) (op_call rfl rfl rfl rfl) (want_ok (l := (lsN x (k : Nat) st).getD 0 0 ||| (lsN x (k : Nat) st).getD 1 0) (w := nmL x (k : Nat) st.name) hR.ok (Pt.bare ((hS.pt 4 rfl).keep0 hR)) (Pt.bare ((hS.pt 3 rfl).keep0 hR)) (or64 (lsN_64 hfi _ _ _) (lsN_64 hfi _ _ _)) hlv (labN_64 hfi _ _)) (fun _ _ h => h.1) ?_;rintro _ sC ⟨-, hpX, rfl⟩ hkX;refine aq0 ?_;have hS := (hS.mov hR).upd 4 rfl hkX (fun g hg => hg) (ptC (.ptr p9 0 0) [.bool _]) hpX (fun g hg => .inl hg);have hS : SH s [ptC (.ptr p0 0 0) [vp, vg, va, vc, vf], ptC (.ptr p1 0 0) [.int .i64 (k : Nat)], ptC (.ptr p2 0 0) [.int .i64 st.kind, .str st.name, vt, ve], ptC (.ptr p3 0 0) [.int .u64 (lv : Nat)], ptC (.ptr p9 0 0) [.bool (true && wN ((lsN x (k : Nat) st).getD 0 0 ||| (lsN x (k : Nat) st).getD 1 0 ||| lv) (nmL x (k : Nat) st.name))], _] _ := hS;refine aq0 ?_;refine cut_n ?_;exact ⟨(scn rfl (Sub.nil _)), by rw [keptK, if_neg h49, if_pos h62, ← wN_two]; exact hS.sub (.cons_cons _ (.cons_cons _ (.cons_cons _ (.cons_cons _ (.cons_cons _ (.cons _ (.refl _)))))))⟩
  refine aq2 ?_;refine wcb (fun h72 => ?_) (fun h72 => ?_)
  ·have hR := Keep.refl (s := z) (hK.ok);refine wc_draw (Old z [p9]) (by kernel_rfl) rfl ?_;refine aq2 ?_;refine wov (op_idxF rfl rfl rfl rfl rfl rfl rfl (RowP.up hr12 _) (by omega)) ?_;refine wo_load hR (v := .int .u64 ((lsN x (k : Nat) st).getD 0 0 : Nat)) rfl rfl (Row.mk_pt (RowP.up hr12 _) (getD_at' (by omega))) rfl (no_gs (RowP.egs hr12 _)) rfl rfl ?_;refine aq2 ?_;refine wo_load hR (v := .str st.name) rfl rfl ((hS.pt 2 rfl).at (nl rfl)) rfl ((by simp [AV.gs, h6])) rfl rfl ?_;refine woc hR (lab_ok hR.ok hx hfi hv hy (Pt.bare ((hS.pt 0 rfl).keep0 hR)) (Pt.bare ((hS.pt 1 rfl).keep0 hR))) ?_;rintro _ sA ⟨-, rfl⟩ hR;refine wo_callX hR (fun _ h => h) rfl rfl (fun _ => rfl) (op_call rfl rfl rfl rfl) (want_ok (l := (lsN x (k : Nat) st).getD 0 0) (w := nmL x (k : Nat) st.name) hR.ok (Pt.bare ((hS.pt 4 rfl).keep0 hR)) (Pt.bare ((hS.pt 3 rfl).keep0 hR)) (lsN_64 hfi _ _ _) hlv (labN_64 hfi _ _)) (fun _ _ h => h.1) ?_;rintro _ sB ⟨-, hpX, rfl⟩ hkX;refine aq0 ?_;have hS := (hS.mov hR).upd 4 rfl hkX (fun g hg => hg) (ptC (.ptr p9 0 0) [.bool _]) hpX (fun g hg => .inl hg);have hS : SH s [ptC (.ptr p0 0 0) [vp, vg, va, vc, vf], ptC (.ptr p1 0 0) [.int .i64 (k : Nat)], ptC (.ptr p2 0 0) [.int .i64 st.kind, .str st.name, vt, ve], ptC (.ptr p3 0 0) [.int .u64 (lv : Nat)], ptC (.ptr p9 0 0) [.bool (true && wN ((lsN x (k : Nat) st).getD 0 0 ||| lv) (nmL x (k : Nat) st.name))], _] _ := hS;refine aq0 ?_;refine cut_n ?_;exact ⟨(scn rfl (Sub.nil _)), by rw [keptK, if_neg h49, if_neg h62, if_pos h72]; exact hS.sub (.cons_cons _ (.cons_cons _ (.cons_cons _ (.cons_cons _ (.cons_cons _ (.cons _ (.refl _)))))))⟩
  refine aq2 ?_;refine wcb (fun h83 => ?_) (fun h83 => ?_)
  ·refine aq0 ?_;obtain ⟨q, gg, hq5, hqq, hgg, hl1', hl2'⟩ := hio.call h83;have hp : fN x (k : Nat) st.name = (5, (q : Int)) := Prod.ext hq5 hqq;have hcall : ∀ {s' : St}, s'.Ok → CallS Try.prog Tt Kt 65 [.agg [vp, vg, va, vc, vf], .int .i64 (k : Nat), .str st.name] s' fun r z' => Keep [] s' z' ∧ r = .tup [.agg [.int .i64 5, .int .i64 (q : Nat)], .bool true] := fun ho => (find_ok ho hx hv).mono fun r z' h => ⟨h.1, by rw [h.2, hp]; rfl⟩;have hql := (ges.1 hgg).1;obtain ⟨cg, hcg⟩ : ∃ c, csf[q]? = some c := ⟨_, gee (by omega)⟩;obtain ⟨gp, gr, gv, gb, rfl, hgp, hgr, hgv, hgb⟩ := hF q gg cg hgg hcg;obtain ⟨csg, hgbr, -, -⟩ := id hgb;have hggf := hfi.2.2.2.2 gg (mog hgg);have hzg : ([.str gg.name, .int .u64 gg.level, gp, gr, gv, gb] : List AV).all AV.leaf = true := by
    simp only [List.all_cons, List.all_nil, hgp.leaf, hgr.leaf, hgv.leaf, hgbr.leaf]; rfl
   refine aq0 ?_;refine wvz (v := .agg [vp, vg, va, vc, vf]) (oL 0 hS) ?_;refine wvz (v := .int .i64 (k : Nat)) (oL 1 hS) ?_;refine aq1 ?_;refine wvz (v := .str st.name) (oL 2 hS) ?_;refine wkz (hcall hS.ok) ?_;rintro _ z ⟨hk, rfl⟩;have hS := hS.mov hk;refine aq3 ?_;refine ws_alloc hS rfl rfl rfl rfl ?_;rintro p17 z hS hk;have hS : SH _ [_, _, _, _, _, _, _] z _ := hS;refine ws_store 6 hS rfl rfl rfl rfl rfl rfl (by rfl) (nl rfl) ?_;rintro z hS;have hS : SH _ [_, _, _, _, _, _, _] z _ := hS;refine aq1 ?_;have hS : SH s [ptC (.ptr p0 0 0) [vp, vg, va, vc, vf], ptC (.ptr p1 0 0) [.int .i64 (k : Nat)], ptC (.ptr p2 0 0) [.int .i64 st.kind, .str st.name, vt, ve], ptC (.ptr p3 0 0) [.int .u64 (lv : Nat)], ptC (.ptr p9 0 0) [.bool (true)], emC, ptC (.ptr p17 0 0) [.int .i64 5, .int .i64 (q : Nat)]] z := hS;refine aq1 ?_;refine wvz (v := vf) (oL 0 hS) ?_;refine aq1 ?_;refine wvz (v := .int .i64 (q : Nat)) (oL 6 hS) ?_;refine wvz (oI (RowP.up hrf _)) ?_;refine wvz (v := .agg [.str gg.name, .int .u64 gg.level, gp, gr, gv, gb]) (oM (Row.pt (RowP.up hrf _) hcg)) ?_;refine ws_alloc hS rfl rfl rfl rfl ?_;rintro p19 z hS hk;have hS : SH _ [_, _, _, _, _, _, _, _] z _ := hS;have hK := hS.K;refine ws_store 7 hS rfl rfl rfl rfl rfl rfl (by assumption) (nl rfl) ?_;rintro z hS;have hS : SH _ [_, _, _, _, _, _, _, _] z _ := hS;refine aq0 ?_;have hS : SH s [ptC (.ptr p0 0 0) [vp, vg, va, vc, vf], ptC (.ptr p1 0 0) [.int .i64 (k : Nat)], ptC (.ptr p2 0 0) [.int .i64 st.kind, .str st.name, vt, ve], ptC (.ptr p3 0 0) [.int .u64 (lv : Nat)], ptC (.ptr p9 0 0) [.bool ((List.range 0).all (fun i => wN ((lsN x (k : Nat) st).getD i 0 ||| lv) ((gg.params.map DeclL.label).getD i 0).toNat))], emC, ptC (.ptr p17 0 0) [.int .i64 5, .int .i64 (q : Nat)], ptC (.ptr p19 0 0) [.str gg.name, .int .u64 gg.level, gp, gr, gv, gb]] z := hS;have hK := hS.K;refine aq1 ?_;refine wvz (oN hr12l) ?_;refine aq1 ?_;refine wc_loop_at (fun jj m z => ∃ i : Nat, jj = st.exprs.length - i ∧ i ≤ st.exprs.length ∧ m = [(4, .ptr p0 0 0), (5, .ptr p1 0 0), (6, .ptr p2 0 0), (9, .ptr p9 0 0), (10, .fn 62 [.ptr p9 0 0, .ptr p3 0 0]), (11, .fn 64 [.ptr p0 0 0, .ptr p1 0 0]), (19, .ptr p19 0 0), (99, r12), (100, .int .i64 (st.exprs.length : Nat)), (101, .int .i64 (i : Nat))] ∧ SH s [ptC (.ptr p0 0 0) [vp, vg, va, vc, vf], ptC (.ptr p1 0 0) [.int .i64 (k : Nat)], ptC (.ptr p2 0 0) [.int .i64 st.kind, .str st.name, vt, ve], ptC (.ptr p3 0 0) [.int .u64 (lv : Nat)], ptC (.ptr p9 0 0) [.bool ((List.range i).all (fun i => wN ((lsN x (k : Nat) st).getD i 0 ||| lv) ((gg.params.map DeclL.label).getD i 0).toNat))], emC, ptC (.ptr p17 0 0) [.int .i64 5, .int .i64 (q : Nat)], ptC (.ptr p19 0 0) [.str gg.name, .int .u64 gg.level, gp, gr, gv, gb]] z) st.exprs.length
    [(4, .ptr p0 0 0), (5, .ptr p1 0 0), (6, .ptr p2 0 0), (9, .ptr p9 0 0), (10, .fn 62 [.ptr p9 0 0, .ptr p3 0 0]), (11, .fn 64 [.ptr p0 0 0, .ptr p1 0 0]), (19, .ptr p19 0 0), (99, r12), (100, .int .i64 (st.exprs.length : Nat)), (101, .int .i64 ((0 : Nat) : Int))] (scn rfl (scn rfl (scn rfl (scn rfl (scn rfl (scn rfl (scn rfl (scn rfl (scn rfl (scn rfl (Sub.nil _))))))))))) ⟨0, by simp, by simp, rfl, hS⟩ ?_
   clear hS hK;rintro jj m z ⟨i, rfl, hi, rfl, hS⟩;refine aq1 ?_;refine wcd (fun h102 => ?_) (fun h102 => ?_)
   ·refine aq0 ?_;obtain ⟨d, hd⟩ : ∃ d, gg.params[i]? = some d := ⟨_, gee (by omega)⟩;have hdl := (ges.1 hd).1;have hdf := (hggf.2.2.1 d (mog hd)).2;have hdc : ((((gg.params.map DeclL.label).getD i 0).toNat : Nat) : Int) = d.label := by rw [declL_at hd, u64_cast hdf]
    refine aq1 ?_;refine wvz (oJ (RowP.up hr12 _)) ?_;refine wvz (v := .int .u64 ((lsN x (k : Nat) st).getD i 0 : Nat)) (op_load rfl rfl (Row.mk_pt (RowP.up hr12 _) (getD_at' (by omega))) rfl) ?_;refine aq5 ?_;refine wvz (v := gp) (oL 7 hS) ?_;refine aq1 ?_;refine wvz (oJ (RowP.up hgp _)) ?_;refine wvz (oF (Row.mk_pt (RowP.up hgp _) hd)) ?_;refine wvz (v := .int .u64 ((((gg.params.map DeclL.label).getD i 0).toNat : Nat) : Int)) (by rw [hdc]; exact op_load rfl rfl (Pt.fld (Row.mk_pt (RowP.up hgp _) hd) _ (nl rfl)) rfl) ?_;refine w_call rfl rfl (op_call rfl rfl rfl rfl) (want_ok hS.ok (hS.pt 4 rfl) (hS.pt 3 rfl) (lsN_64 hfi _ _ _) hlv (by rw [declL_at hd]; exact u64_lt hdf)) ?_;rintro _ z ⟨hkX, hpX, rfl⟩;have hS := hS.upd 4 rfl hkX (fun g hg => hg) (ptC (.ptr p9 0 0) [.bool _]) hpX (fun g hg => .inl hg);have hS : SH s [ptC (.ptr p0 0 0) [vp, vg, va, vc, vf], ptC (.ptr p1 0 0) [.int .i64 (k : Nat)], ptC (.ptr p2 0 0) [.int .i64 st.kind, .str st.name, vt, ve], ptC (.ptr p3 0 0) [.int .u64 (lv : Nat)], ptC (.ptr p9 0 0) [.bool ((List.range (i + 1)).all (fun i => wN ((lsN x (k : Nat) st).getD i 0 ||| lv) ((gg.params.map DeclL.label).getD i 0).toNat))], emC, ptC (.ptr p17 0 0) [.int .i64 5, .int .i64 (q : Nat)], ptC (.ptr p19 0 0) [.str gg.name, .int .u64 gg.level, gp, gr, gv, gb]] z := by rw [all_succ]; exact hS
    refine aq0 ?_;refine wad ?_;refine aq1 ?_;exact rn ⟨i + 1, rfl, by omega, rfl, hS⟩
   obtain rfl : i = st.exprs.length := by omega
   refine aq2 ?_;refine wvz (v := .int .u64 ((gg.level.toNat : Nat) : Int)) (by rw [u64_cast hggf.2.1]; exact oL 7 hS) ?_;refine w_call rfl rfl (op_call rfl rfl rfl rfl) (want_ok (l := 0) hS.ok (hS.pt 4 rfl) (hS.pt 3 rfl) (by decide) hlv (u64_lt hggf.2.1)) ?_;rintro _ z ⟨hkX, hpX, rfl⟩;have hS := hS.upd 4 rfl hkX (fun g hg => hg) (ptC (.ptr p9 0 0) [.bool _]) hpX (fun g hg => .inl hg);have hS : SH s [ptC (.ptr p0 0 0) [vp, vg, va, vc, vf], ptC (.ptr p1 0 0) [.int .i64 (k : Nat)], ptC (.ptr p2 0 0) [.int .i64 st.kind, .str st.name, vt, ve], ptC (.ptr p3 0 0) [.int .u64 (lv : Nat)], ptC (.ptr p9 0 0) [.bool ((List.range st.exprs.length).all (fun i => wN ((lsN x (k : Nat) st).getD i 0 ||| lv) ((gg.params.map DeclL.label).getD i 0).toNat) && wN lv gg.level.toNat)], emC, ptC (.ptr p17 0 0) [.int .i64 5, .int .i64 (q : Nat)], ptC (.ptr p19 0 0) [.str gg.name, .int .u64 gg.level, gp, gr, gv, gb]] z := by rw [Nat.zero_or] at hS; exact hS
   refine aq0 ?_;have hS : SH s [ptC (.ptr p0 0 0) [vp, vg, va, vc, vf], ptC (.ptr p1 0 0) [.int .i64 (k : Nat)], ptC (.ptr p2 0 0) [.int .i64 st.kind, .str st.name, vt, ve], ptC (.ptr p3 0 0) [.int .u64 (lv : Nat)], ptC (.ptr p9 0 0) [.bool ((List.range st.exprs.length).all (fun i => wN ((lsN x (k : Nat) st).getD i 0 ||| lv) ((gg.params.map DeclL.label).getD i 0).toNat) && wN lv gg.level.toNat && (List.range 0).all (fun i => wN ((gg.results.getD i 0).toNat ||| lv) (nmL x (k : Nat) (st.targets.getD i ByteArray.empty))))], emC, ptC (.ptr p17 0 0) [.int .i64 5, .int .i64 (q : Nat)], ptC (.ptr p19 0 0) [.str gg.name, .int .u64 gg.level, gp, gr, gv, gb]] z := by rw [List.range_zero, List.all_nil, Bool.and_true]; exact hS
   have hK := hS.K;refine aq1 ?_;refine wvz (v := vt) (oL 2 hS) ?_;refine wvz (oN hst1) ?_;refine aq1 ?_;refine wc_loop_at (fun jj m z => ∃ i : Nat, jj = st.targets.length - i ∧ i ≤ st.targets.length ∧ m = [(4, .ptr p0 0 0), (5, .ptr p1 0 0), (6, .ptr p2 0 0), (9, .ptr p9 0 0), (10, .fn 62 [.ptr p9 0 0, .ptr p3 0 0]), (11, .fn 64 [.ptr p0 0 0, .ptr p1 0 0]), (19, .ptr p19 0 0), (121, vt), (122, .int .i64 (st.targets.length : Nat)), (123, .int .i64 (i : Nat))] ∧ SH s [ptC (.ptr p0 0 0) [vp, vg, va, vc, vf], ptC (.ptr p1 0 0) [.int .i64 (k : Nat)], ptC (.ptr p2 0 0) [.int .i64 st.kind, .str st.name, vt, ve], ptC (.ptr p3 0 0) [.int .u64 (lv : Nat)], ptC (.ptr p9 0 0) [.bool ((List.range st.exprs.length).all (fun i => wN ((lsN x (k : Nat) st).getD i 0 ||| lv) ((gg.params.map DeclL.label).getD i 0).toNat) && wN lv gg.level.toNat && (List.range i).all (fun i => wN ((gg.results.getD i 0).toNat ||| lv) (nmL x (k : Nat) (st.targets.getD i ByteArray.empty))))], emC, ptC (.ptr p17 0 0) [.int .i64 5, .int .i64 (q : Nat)], ptC (.ptr p19 0 0) [.str gg.name, .int .u64 gg.level, gp, gr, gv, gb]] z) st.targets.length
    [(4, .ptr p0 0 0), (5, .ptr p1 0 0), (6, .ptr p2 0 0), (9, .ptr p9 0 0), (10, .fn 62 [.ptr p9 0 0, .ptr p3 0 0]), (11, .fn 64 [.ptr p0 0 0, .ptr p1 0 0]), (19, .ptr p19 0 0), (121, vt), (122, .int .i64 (st.targets.length : Nat)), (123, .int .i64 ((0 : Nat) : Int))] (scn rfl (scn rfl (scn rfl (scn rfl (scn rfl (scn rfl (scn rfl (scn rfl (scn rfl (scn rfl (Sub.nil _))))))))))) ⟨0, by simp, by simp, rfl, hS⟩ ?_
   clear hS hK;rintro jj m z ⟨i, rfl, hi, rfl, hS⟩;have hK := hS.K;refine aq1 ?_;refine wcd (fun h124 => ?_) (fun h124 => ?_)
   ·refine aq0 ?_;obtain ⟨tn, htn⟩ : ∃ d, st.targets[i]? = some d := ⟨_, gee (by omega)⟩;obtain ⟨d, hd⟩ : ∃ d, gg.results[i]? = some d := ⟨_, gee (by omega)⟩;have hdl := (ges.1 hd).1;have hdf := hggf.2.2.2.1 d (mog hd);have hdc : (((gg.results.getD i 0).toNat : Nat) : Int) = d := by rw [res_at hd, u64_cast hdf]
    have h19 : p19 ≠ p9 := hS.ne (i := 7) (j := 4) (by decide) rfl rfl (msi.2 rfl) (msi.2 rfl);refine aq1 ?_;refine wvz (oJ (RowP.up hvt _)) ?_;refine wvz (v := .str tn) (oM (Row.mk_pt (RowP.up hvt _) htn)) ?_;refine aq2 ?_;have hR := Keep.refl (s := z) (hK.ok);refine wc_draw (Old z [p9]) (by kernel_rfl) rfl ?_;refine aq2 ?_;refine wo_load hR (v := gr) rfl rfl ((hS.pt 7 rfl).at (nl rfl)) rfl (by simp [AV.gs, h19]) rfl rfl ?_;refine aq1 ?_;refine wov (oJ (RowP.up hgr _)) ?_;refine wo_load hR (v := .int .u64 (((gg.results.getD i 0).toNat : Nat) : Int)) rfl rfl (Row.mk_pt (RowP.up hgr _) hd) (by rw [hdc]; rfl) (no_gs (RowP.egs hgr _)) rfl rfl ?_;refine aq2 ?_;refine woc hR (lab_ok hR.ok hx hfi hv hy (Pt.bare ((hS.pt 0 rfl).keep0 hR)) (Pt.bare ((hS.pt 1 rfl).keep0 hR))) ?_;rintro _ sA ⟨-, rfl⟩ hR;refine wo_callX hR (fun _ h => h) rfl rfl (fun _ => rfl) (op_call rfl rfl rfl rfl) (want_ok (l := (gg.results.getD i 0).toNat) (w := nmL x (k : Nat) tn) hR.ok (Pt.bare ((hS.pt 4 rfl).keep0 hR)) (Pt.bare ((hS.pt 3 rfl).keep0 hR)) (by rw [res_at hd]; exact u64_lt hdf) hlv (labN_64 hfi _ _)) (fun _ _ h => h.1) ?_;rintro _ sB ⟨-, hpX, rfl⟩ hkX;refine aq0 ?_;have hS := (hS.mov hR).upd 4 rfl hkX (fun g hg => hg) (ptC (.ptr p9 0 0) [.bool _]) hpX (fun g hg => .inl hg);have e2 : ((List.range st.exprs.length).all (fun i => wN ((lsN x (k : Nat) st).getD i 0 ||| lv) ((gg.params.map DeclL.label).getD i 0).toNat) && wN lv gg.level.toNat && (List.range (i + 1)).all (fun i => wN ((gg.results.getD i 0).toNat ||| lv) (nmL x (k : Nat) (st.targets.getD i ByteArray.empty)))) = ((List.range st.exprs.length).all (fun i => wN ((lsN x (k : Nat) st).getD i 0 ||| lv) ((gg.params.map DeclL.label).getD i 0).toNat) && wN lv gg.level.toNat && (List.range i).all (fun i => wN ((gg.results.getD i 0).toNat ||| lv) (nmL x (k : Nat) (st.targets.getD i ByteArray.empty))) && wN ((gg.results.getD i 0).toNat ||| lv) (nmL x (k : Nat) tn)) := by rw [all_succ, ← Bool.and_assoc, tgt_at htn]
    rw [← e2] at hS;have hS : SH s [ptC (.ptr p0 0 0) [vp, vg, va, vc, vf], ptC (.ptr p1 0 0) [.int .i64 (k : Nat)], ptC (.ptr p2 0 0) [.int .i64 st.kind, .str st.name, vt, ve], ptC (.ptr p3 0 0) [.int .u64 (lv : Nat)], ptC (.ptr p9 0 0) [.bool ((List.range st.exprs.length).all (fun i => wN ((lsN x (k : Nat) st).getD i 0 ||| lv) ((gg.params.map DeclL.label).getD i 0).toNat) && wN lv gg.level.toNat && (List.range (i + 1)).all (fun i => wN ((gg.results.getD i 0).toNat ||| lv) (nmL x (k : Nat) (st.targets.getD i ByteArray.empty))))], emC, ptC (.ptr p17 0 0) [.int .i64 5, .int .i64 (q : Nat)], ptC (.ptr p19 0 0) [.str gg.name, .int .u64 gg.level, gp, gr, gv, gb]] _ := hS;refine aq0 ?_;refine wad ?_;refine aq1 ?_;exact rn ⟨i + 1, rfl, by omega, rfl, hS⟩
   obtain rfl : i = st.targets.length := by omega
   refine aq0 ?_;refine cut_n ?_;exact ⟨(scn rfl (Sub.nil _)), by rw [keptK, if_neg h49, if_neg h62, if_neg h72, if_pos h83, hp]; show SH s [ptC (.ptr p0 0 0) [vp, vg, va, vc, vf], ptC (.ptr p1 0 0) [.int .i64 (k : Nat)], ptC (.ptr p2 0 0) [.int .i64 st.kind, .str st.name, vt, ve], ptC (.ptr p3 0 0) [.int .u64 (lv : Nat)], ptC (.ptr p9 0 0) [.bool (match x.funcs[q]? with | some g => callK x k g st lv | none => true)]] z; rw [hgg]; exact hS.sub (.cons_cons _ (.cons_cons _ (.cons_cons _ (.cons_cons _ (.cons_cons _ (.cons _ (.cons _ (.cons _ (.refl _)))))))))⟩
  refine aq2 ?_;refine wcb (fun h139 => ?_) (fun h139 => ?_)
  ·refine aq0 ?_;have hS : SH s [ptC (.ptr p0 0 0) [vp, vg, va, vc, vf], ptC (.ptr p1 0 0) [.int .i64 (k : Nat)], ptC (.ptr p2 0 0) [.int .i64 st.kind, .str st.name, vt, ve], ptC (.ptr p3 0 0) [.int .u64 (lv : Nat)], ptC (.ptr p9 0 0) [.bool ((List.range 0).all fun i => wN ((lsN x (k : Nat) st).getD i 0 ||| lv) (y.results.getD i 0).toNat)], emC] z := hS;have hrl := hio.ret h139;refine aq1 ?_;refine wvz (oN hr12l) ?_;refine aq1 ?_;refine wc_loop_at (fun jj m z => ∃ i : Nat, jj = st.exprs.length - i ∧ i ≤ st.exprs.length ∧ m = [(4, .ptr p0 0 0), (5, .ptr p1 0 0), (6, .ptr p2 0 0), (9, .ptr p9 0 0), (10, .fn 62 [.ptr p9 0 0, .ptr p3 0 0]), (11, .fn 64 [.ptr p0 0 0, .ptr p1 0 0]), (141, r12), (142, .int .i64 (st.exprs.length : Nat)), (143, .int .i64 (i : Nat))] ∧ SH s [ptC (.ptr p0 0 0) [vp, vg, va, vc, vf], ptC (.ptr p1 0 0) [.int .i64 (k : Nat)], ptC (.ptr p2 0 0) [.int .i64 st.kind, .str st.name, vt, ve], ptC (.ptr p3 0 0) [.int .u64 (lv : Nat)], ptC (.ptr p9 0 0) [.bool ((List.range i).all (fun i => wN ((lsN x (k : Nat) st).getD i 0 ||| lv) (y.results.getD i 0).toNat))], emC] z) st.exprs.length
    [(4, .ptr p0 0 0), (5, .ptr p1 0 0), (6, .ptr p2 0 0), (9, .ptr p9 0 0), (10, .fn 62 [.ptr p9 0 0, .ptr p3 0 0]), (11, .fn 64 [.ptr p0 0 0, .ptr p1 0 0]), (141, r12), (142, .int .i64 (st.exprs.length : Nat)), (143, .int .i64 ((0 : Nat) : Int))] (scn rfl (scn rfl (scn rfl (scn rfl (scn rfl (scn rfl (scn rfl (scn rfl (scn rfl (Sub.nil _)))))))))) ⟨0, by simp, by simp, rfl, hS⟩ ?_
   clear hS hK;rintro jj m z ⟨i, rfl, hi, rfl, hS⟩;refine aq1 ?_;refine wcd (fun h144 => ?_) (fun h144 => ?_)
   ·refine aq0 ?_;obtain ⟨d, hd⟩ : ∃ d, y.results[i]? = some d := ⟨_, gee (by omega)⟩;have hdl := (ges.1 hd).1;have hdf := hyf.2.2.2.1 d (mog hd);have hdc : (((y.results.getD i 0).toNat : Nat) : Int) = d := by rw [res_at hd, u64_cast hdf]
    refine aq1 ?_;refine wvz (oJ (RowP.up hr12 _)) ?_;refine wvz (v := .int .u64 ((lsN x (k : Nat) st).getD i 0 : Nat)) (op_load rfl rfl (Row.mk_pt (RowP.up hr12 _) (getD_at' (by omega))) rfl) ?_;refine aq5 ?_;refine wvz (v := vf) (oL 0 hS) ?_;refine wvz (v := .int .i64 (k : Nat)) (oL 1 hS) ?_;refine wvz (oI (RowP.up hrf _)) ?_;refine wvz (oF (Row.pt (RowP.up hrf _) hcy)) ?_;refine wvz (v := yr) (oM (Pt.fld (Row.pt (RowP.up hrf _) hcy) _ (nl rfl))) ?_;refine aq1 ?_;refine wvz (oJ (RowP.up hyr _)) ?_;refine wvz (v := .int .u64 (((y.results.getD i 0).toNat : Nat) : Int)) (by rw [hdc]; exact op_load rfl rfl (Row.mk_pt (RowP.up hyr _) hd) rfl) ?_;refine w_call rfl rfl (op_call rfl rfl rfl rfl) (want_ok hS.ok (hS.pt 4 rfl) (hS.pt 3 rfl) (lsN_64 hfi _ _ _) hlv (by rw [res_at hd]; exact u64_lt hdf)) ?_;rintro _ z ⟨hkX, hpX, rfl⟩;have hS := hS.upd 4 rfl hkX (fun g hg => hg) (ptC (.ptr p9 0 0) [.bool _]) hpX (fun g hg => .inl hg);have hS : SH s [ptC (.ptr p0 0 0) [vp, vg, va, vc, vf], ptC (.ptr p1 0 0) [.int .i64 (k : Nat)], ptC (.ptr p2 0 0) [.int .i64 st.kind, .str st.name, vt, ve], ptC (.ptr p3 0 0) [.int .u64 (lv : Nat)], ptC (.ptr p9 0 0) [.bool ((List.range (i + 1)).all (fun i => wN ((lsN x (k : Nat) st).getD i 0 ||| lv) (y.results.getD i 0).toNat))], emC] z := by rw [all_succ]; exact hS
    refine aq0 ?_;refine wad ?_;refine aq1 ?_;exact rn ⟨i + 1, rfl, by omega, rfl, hS⟩
   obtain rfl : i = st.exprs.length := by omega
   refine aq0 ?_;refine cut_n ?_;exact ⟨(scn rfl (Sub.nil _)), by rw [keptK, if_neg h49, if_neg h62, if_neg h72, if_neg h83, if_pos h139]; exact hS.sub (.cons_cons _ (.cons_cons _ (.cons_cons _ (.cons_cons _ (.cons_cons _ (.cons _ (.refl _)))))))⟩
  refine aq0 ?_;refine cut_n ?_;exact ⟨(scn rfl (Sub.nil _)), by rw [keptK, if_neg h49, if_neg h62, if_neg h72, if_neg h83, if_neg h139]; exact hS.sub (.cons_cons _ (.cons_cons _ (.cons_cons _ (.cons_cons _ (.cons_cons _ (.cons _ (.refl _)))))))⟩
 clear hS hK;rintro m z ⟨hm, hS⟩;have hK := hS.K;refine wc_sub hm ?_;refine aq0 ?_;refine wvz (v := .bool (keptK x k y st lv)) (oL 4 hS) ?_;refine aq1 ?_;exact ⟨_, rfl, hK, rfl⟩
end Go.Ab
namespace Go.Ab
open Go.Proofs
def lkN (s : SrcL) (f : Int) (x : StmtL) (lv i : Nat) : List Nat := ((lsN s f x).take i).map fun n => n ||| lv
theorem lkN_len (s : SrcL) (f : Int) (x : StmtL) (lv : Nat) : (lkN s f x lv x.exprs.length).length = x.exprs.length := by rw [lkN, lmm, List.length_take, lsN_len, Nat.min_self]
theorem lkN_at {s : SrcL} {f : Int} {x : StmtL} {lv i : Nat} (h : i < x.exprs.length) : (lkN s f x lv x.exprs.length)[i]? = some ((lsN s f x).getD i 0 ||| lv) := by
 rw [lkN, List.take_of_length_le (by rw [lsN_len]; omega), gmm, getD_at' (by rw [lsN_len]; exact h)]; rfl
theorem lkN_snoc {s : SrcL} {f : Int} {x : StmtL} {lv i : Nat} {e : List TermL} (h : x.exprs[i]? = some e) : (lkN s f x lv i).map uC ++ [[.int .u64 ((exN s f e ||| lv : Nat) : Int)]] = (lkN s f x lv (i + 1)).map uC := by
 rw [uC_map]
 congr 1
 rw [lkN, lkN, lsN_snoc h, List.map_append]; rfl
theorem all_no {p : Nat → Bool} {i n : Nat} (hi : i < n) (h : p i = false) : (List.range n).all p = false := by
 rw [← Bool.not_eq_true, aet];intro k;have := k i (List.mem_range.2 hi);rw [h] at this;cases this
theorem keeps_ref_ok {s : St} {c : List AV} {x : SrcL} {k i : Nat} {y : FunL} {st : StmtL} {lv : Nat} (hok : s.Ok) (hx : x.small) (hfi : x.fine) (hv : SrcP x c) (hy : x.funcs[k]? = some y) (hst : y.body[i]? = some st) (hio : InO x k y st) (hlv : lv < 2 ^ 64) :
  CallS Try.prog Tt Kt 30 [.agg c, .int .i64 (k : Nat), .int .i64 (i : Nat), .int .u64 (lv : Nat)] s fun r s' => Keep [] s s' ∧ r = .bool (keptK x k y st lv) := by
 have hz := hv.leaf;obtain ⟨vp, vg, va, vc, vf, rfl, hvp, hvg, hva, hvc, csf, hrf, hlf, hF⟩ := id hv;obtain ⟨hl1, hl2, hl3, hl4, hl5, hsm⟩ := id hx;have hsf : vf.slen = some x.funcs.length := by rw [hrf.slen, hlf]
 have hkl := (ges.1 hy).1;obtain ⟨cy, hcy⟩ : ∃ c, csf[k]? = some c := ⟨_, gee (by omega)⟩;obtain ⟨yp, yr, yv, yb, rfl, hyp, hyr, hyv, hyb⟩ := hF k y cy hy hcy;obtain ⟨hy1, hy2, hy3, hy4, hy5⟩ := id (hsm y (mog hy));have hyf := hfi.2.2.2.2 y (mog hy);have hsp : yp.slen = some y.params.length := by rw [hyp.slen, lmm]
 obtain ⟨csb, hbr, hbl, hbE⟩ := id hyb;have hil := (ges.1 hst).1;obtain ⟨cst, hcst⟩ : ∃ c, csb[i]? = some c := ⟨_, gee (by omega)⟩;obtain ⟨vt, ve, rfl, hvt, hve⟩ := hbE i st cst hst hcst;have hss := hy5 st (mog hst);obtain ⟨cse, hre, hle, hTE⟩ := id hve;have hse : ve.slen = some st.exprs.length := by rw [hre.slen, hle]
 have hst1 : vt.slen = some st.targets.length := by rw [hvt.slen, lmm]
 have hzs : ([.int .i64 st.kind, .str st.name, vt, ve] : List AV).all AV.leaf = true := by
  simp only [List.all_cons, List.all_nil, hvt.leaf, hre.leaf]; rfl
 have hss2 := hss.2.1;have hss1 := hss.1;have hfit := hio.fit;unfold fitK at hfit;have hkn := lkN_len x (k : Nat) st lv;refine cof 205 Try.func30 ?_;refine aq0 ?_;have hS := SH.start hok;refine aq0 ?_;refine ws_box hS rfl rfl rfl hz ?_;rintro p0 z hS hk;have hS : SH _ [_] z _ := hS;refine aq2 ?_;refine wvz (v := vf) (oL 0 hS) ?_;refine aq1 ?_;refine wvz (oI (RowP.up hrf _)) ?_;refine wvz (oF (Row.pt (RowP.up hrf z.h) hcy)) ?_;refine wvz (v := yb) (oM (Pt.fld (Row.pt (RowP.up hrf z.h) hcy) _ (nl rfl))) ?_;refine aq1 ?_;refine wvz (oI (RowP.up hbr _)) ?_;refine wvz (v := .agg [.int .i64 st.kind, .str st.name, vt, ve]) (oM (Row.pt (RowP.up hbr _) hcst)) ?_;refine ws_alloc hS rfl rfl rfl rfl ?_;rintro p9 z hS hk;have hS : SH _ [_, _] z _ := hS;have hK := hS.K;refine ws_store 1 hS rfl rfl rfl rfl rfl rfl (by assumption) (nl rfl) ?_;rintro z hS;have hS : SH _ [_, _] z _ := hS;refine aq2 ?_;have hS := hS.nil 1;have hS : SH s [ptC (.ptr p0 0 0) [vp, vg, va, vc, vf], ptC (.ptr p9 0 0) [.int .i64 st.kind, .str st.name, vt, ve], rowC .nils 1 ((lkN x (k : Nat) st lv 0).map uC)] z := hS;have hK := hS.K;refine aq0 ?_;refine wc_loop_at (fun jj m z => ∃ (j : Nat) (v : AV), jj = st.exprs.length - j ∧ j ≤ st.exprs.length ∧ m = [(1, .int .i64 (k : Nat)), (3, .int .u64 (lv : Nat)), (4, .ptr p0 0 0), (9, .ptr p9 0 0), (10, v), (11, .int .i64 (j : Nat))] ∧ SH s [ptC (.ptr p0 0 0) [vp, vg, va, vc, vf], ptC (.ptr p9 0 0) [.int .i64 st.kind, .str st.name, vt, ve], rowC v 1 ((lkN x (k : Nat) st lv j).map uC)] z) st.exprs.length
  [(1, .int .i64 (k : Nat)), (3, .int .u64 (lv : Nat)), (4, .ptr p0 0 0), (9, .ptr p9 0 0), (10, .nils), (11, .int .i64 ((0 : Nat) : Int))] (scn rfl (scn rfl (scn rfl (scn rfl (scn rfl (scn rfl (Sub.nil _))))))) ⟨0, .nils, by simp, by simp, rfl, hS⟩ ?_
 clear hS hK;rintro jj m z ⟨j, v, rfl, hj, rfl, hS⟩;have hK := hS.K;refine aq2 ?_;refine wvz (v := ve) (oL 1 hS) ?_;refine wvz (oN hse) ?_;refine aq1 ?_;refine wcd (fun h41 => ?_) (fun h41 => ?_)
 ·refine aq0 ?_;obtain ⟨ts, hts⟩ : ∃ d, st.exprs[j]? = some d := ⟨_, gee (by omega)⟩;obtain ⟨ct, hct⟩ : ∃ c, cse[j]? = some c := ⟨_, gee (by omega)⟩;obtain ⟨tv, rfl, htv⟩ := hTE j ts ct hts hct;have hR := Keep.refl (s := z) (hK.ok);refine wc_draw (Old z []) (by kernel_rfl) rfl ?_;refine wol hR (v := .agg [vp, vg, va, vc, vf]) ((hS.pt 0 rfl).at (o := 0) (Nat.zero_le _)) (fun _ _ h => by cases h) ?_;refine aq2 ?_;refine wo_load hR (v := ve) rfl rfl ((hS.pt 1 rfl).at (nl rfl)) rfl (fun _ _ h => by cases h) rfl rfl ?_;refine aq1 ?_;refine wov (oI (RowP.up hre _)) ?_;refine wol hR (v := tv) (Row.pt (RowP.up hre _) hct) (no_gs (RowP.egs hre _)) ?_;refine woc hR (expr_ref_ok hR.ok hx hfi hv hy (hss.2.2 ts (mog hts)) htv) ?_;rintro _ sQ ⟨-, rfl⟩ hR;refine aq5 ?_;have hS := hS.mov hR;generalize St.mk sQ.ctr z.h sQ.wr = z at hS ⊢;refine aq0 ?_;have hlj : (lkN x (k : Nat) st lv j).length ≤ j := by rw [lkN, lmm, List.length_take]; omega
  refine aq3 ?_;refine wvz (v := .int .u64 ((exN x (k : Nat) ts ||| lv : Nat) : Int)) (op_bin rfl rfl (by rw [← orI_nat (exN_64 hfi _ _) hlv]; rfl)) ?_;refine ws_lit1 hS rfl rfl rfl rfl rfl rfl rfl rfl (by decide) (by decide) rfl (by rfl) rfl ?_;rintro lt59 z hS hk hlt59;refine ws_append 2 hS rfl rfl rfl rfl rfl rfl rfl rfl rfl rfl rfl (by decide) (hlt59) (by (simp only [lmm, lnn, lcc, maxBytes]; omega)) (by (simp only [lmm, lnn, lcc, maxBytes]; omega)) ?_;rintro at60 z hS;have hS : SH _ [_, _, _] z _ := hS;refine aq2 ?_;refine wad ?_;refine aq1 ?_;have hS : SH s [ptC (.ptr p0 0 0) [vp, vg, va, vc, vf], ptC (.ptr p9 0 0) [.int .i64 st.kind, .str st.name, vt, ve], rowC at60 1 ((lkN x (k : Nat) st lv (j + 1)).map uC)] z := by rw [← lkN_snoc hts]; exact hS
  exact rn ⟨j + 1, at60, rfl, by omega, rfl, hS⟩
 obtain rfl : j = st.exprs.length := by omega
 refine wc_exit ?_
 repeat first | refine then_x ?_ | refine round_x ?_ | refine cut_x ?_ | refine out_x' (by decide) ?_
 refine out_x ?_;refine then_n ?_
 repeat refine wc_seq ?_
 refine wcs_told 2 10 hS rfl rfl (fun r10 hr10 hS => ?_);generalize z.drop v.gs = z at hS ⊢;have hS : SH s [ptC (.ptr p0 0 0) [vp, vg, va, vc, vf], ptC (.ptr p9 0 0) [.int .i64 st.kind, .str st.name, vt, ve], emC] z := hS;have hK := hS.K;have hr10l : r10.slen = some st.exprs.length := by rw [hr10.slen, lmm, hkn]
 refine aq1 ?_;refine wvz (v := .int .i64 st.kind) (oL 1 hS) ?_;refine aq2 ?_;refine wcb (fun h63 => ?_) (fun h63 => ?_)
 ·refine aq0 ?_;obtain ⟨tn, htn⟩ : ∃ d, st.targets[0]? = some d := ⟨_, gee (by omega)⟩;have hR := Keep.refl (s := z) (hK.ok);refine wc_draw (Old z []) (by kernel_rfl) rfl ?_;refine wol hR (v := .agg [vp, vg, va, vc, vf]) ((hS.pt 0 rfl).at (o := 0) (Nat.zero_le _)) (fun _ _ h => by cases h) ?_;refine aq2 ?_;refine wo_load hR (v := vt) rfl rfl ((hS.pt 1 rfl).at (nl rfl)) rfl (fun _ _ h => by cases h) rfl rfl ?_;refine wov (op_idxF rfl rfl rfl rfl rfl rfl rfl (RowP.up hvt _) (by omega)) ?_;refine wol hR (v := .str tn) (Row.mk_pt (RowP.up hvt _) htn) (no_gs (RowP.egs hvt _)) ?_;refine wo_call0 hR rfl rfl (fun _ => rfl) (op_call rfl rfl rfl rfl) (label_ref_ok hR.ok hx hfi hv hy) (fun _ _ h => h.1) (by rintro _ _ ⟨-, _, rfl⟩; rfl) ?_;rintro _ sQ ⟨-, b2, rfl⟩ hR;refine aq5 ?_;have hS := hS.mov hR;generalize St.mk sQ.ctr z.h sQ.wr = z at hS ⊢;refine aq1 ?_;refine wvz (op_idxF rfl rfl rfl rfl rfl rfl rfl (RowP.up hr10 _) (by omega)) ?_;refine wvz (v := .int .u64 (((lsN x (k : Nat) st).getD 0 0 ||| lv : Nat) : Int)) (op_load rfl rfl (Row.mk_pt (RowP.up hr10 _) (lkN_at (by omega))) rfl) ?_;refine aq1 ?_;refine wkz (within_ref_ok (a := (lsN x (k : Nat) st).getD 0 0 ||| lv) (b := labN x (k : Nat) (fN x (k : Nat) tn)) hS.ok (or64 (lsN_64 hfi _ _ _) hlv) (labN_64 hfi _ _)) ?_;rintro _ z ⟨hk, rfl⟩;have hS := hS.mov hk;have hK := hS.K;refine aq1 ?_;exact ⟨_, rfl, hK, by rw [keptK, if_pos h63, tgt_at htn]; rfl⟩
 refine aq2 ?_;refine wcb (fun h80 => ?_) (fun h80 => ?_)
 ·refine aq0 ?_;refine wvz (v := .agg [vp, vg, va, vc, vf]) (oL 0 hS) ?_;refine aq2 ?_;refine wvz (v := .str st.name) (oL 1 hS) ?_;refine wkz (label_ref_ok hS.ok hx hfi hv hy) ?_;rintro _ z ⟨hk, b9, rfl⟩;have hS := hS.mov hk;refine aq6 ?_;refine wvz (op_idxF rfl rfl rfl rfl rfl rfl rfl (RowP.up hr10 _) (by omega)) ?_;refine wvz (v := .int .u64 (((lsN x (k : Nat) st).getD 0 0 ||| lv : Nat) : Int)) (op_load rfl rfl (Row.mk_pt (RowP.up hr10 _) (lkN_at (by omega))) rfl) ?_;refine aq1 ?_;refine wkz (within_ref_ok (a := (lsN x (k : Nat) st).getD 0 0 ||| lv) (b := labN x (k : Nat) (fN x (k : Nat) st.name)) hS.ok (or64 (lsN_64 hfi _ _ _) hlv) (labN_64 hfi _ _)) ?_;rintro _ z ⟨hk, rfl⟩;have hS := hS.mov hk;have hK := hS.K;refine aq1 ?_;refine w_split (i := 95) rfl (fun h95 => ?_) (fun h95 => ?_)
  ·refine aq1 ?_;refine wvz (op_idxF rfl rfl rfl rfl rfl rfl rfl (RowP.up hr10 _) (by omega)) ?_;refine wvz (v := .int .u64 (((lsN x (k : Nat) st).getD 1 0 ||| lv : Nat) : Int)) (op_load rfl rfl (Row.mk_pt (RowP.up hr10 _) (lkN_at (by omega))) rfl) ?_;refine aq1 ?_;refine wkz (within_ref_ok (a := (lsN x (k : Nat) st).getD 1 0 ||| lv) (b := labN x (k : Nat) (fN x (k : Nat) st.name)) hS.ok (or64 (lsN_64 hfi _ _ _) hlv) (labN_64 hfi _ _)) ?_;rintro _ z ⟨hk, rfl⟩;have hS := hS.mov hk;have hK := hS.K;refine aq2 ?_;exact ⟨_, rfl, hK, by rw [keptK, if_neg h63, if_pos h80, nmL, h95, Bool.true_and]; rfl⟩
  refine aq7 ?_;exact ⟨_, rfl, hK, by rw [keptK, if_neg h63, if_pos h80, nmL, h95]; rfl⟩
 refine aq2 ?_;refine wcb (fun h102 => ?_) (fun h102 => ?_)
 ·refine aq0 ?_;refine wvz (v := .agg [vp, vg, va, vc, vf]) (oL 0 hS) ?_;refine aq2 ?_;refine wvz (v := .str st.name) (oL 1 hS) ?_;refine wkz (label_ref_ok hS.ok hx hfi hv hy) ?_;rintro _ z ⟨hk, b9, rfl⟩;have hS := hS.mov hk;refine aq6 ?_;refine wvz (op_idxF rfl rfl rfl rfl rfl rfl rfl (RowP.up hr10 _) (by omega)) ?_;refine wvz (v := .int .u64 (((lsN x (k : Nat) st).getD 0 0 ||| lv : Nat) : Int)) (op_load rfl rfl (Row.mk_pt (RowP.up hr10 _) (lkN_at (by omega))) rfl) ?_;refine aq1 ?_;refine wkz (within_ref_ok (a := (lsN x (k : Nat) st).getD 0 0 ||| lv) (b := labN x (k : Nat) (fN x (k : Nat) st.name)) hS.ok (or64 (lsN_64 hfi _ _ _) hlv) (labN_64 hfi _ _)) ?_;rintro _ z ⟨hk, rfl⟩;have hS := hS.mov hk;have hK := hS.K;refine aq1 ?_;exact ⟨_, rfl, hK, by rw [keptK, if_neg h63, if_neg h80, if_pos h102]; rfl⟩
 refine aq2 ?_;refine wcb (fun h117 => ?_) (fun h117 => ?_)
 ·refine aq0 ?_;obtain ⟨q, gg, hq5, hqq, hgg, hl1', hl2'⟩ := hio.call h117;have hp : fN x (k : Nat) st.name = (5, (q : Int)) := Prod.ext hq5 hqq;have hcall : ∀ {s' : St}, s'.Ok → CallS Try.prog Tt Kt 75 [.agg [vp, vg, va, vc, vf], .int .i64 (k : Nat), .str st.name] s' fun r z' => Keep [] s' z' ∧ r = .tup [.int .i64 5, .int .i64 (q : Nat)] := fun ho => (find_ref_ok ho hx hv).mono fun r z' h => ⟨h.1, by rw [h.2, hp]⟩;have hql := (ges.1 hgg).1;obtain ⟨cg, hcg⟩ : ∃ c, csf[q]? = some c := ⟨_, gee (by omega)⟩;obtain ⟨gp, gr, gv, gb, rfl, hgp, hgr, hgv, hgb⟩ := hF q gg cg hgg hcg;obtain ⟨csg, hgbr, -, -⟩ := id hgb;have hggf := hfi.2.2.2.2 gg (mog hgg);have hzg : ([.str gg.name, .int .u64 gg.level, gp, gr, gv, gb] : List AV).all AV.leaf = true := by
   simp only [List.all_cons, List.all_nil, hgp.leaf, hgr.leaf, hgv.leaf, hgbr.leaf]; rfl
  have hkK : keptK x k y st lv = callK x k gg st lv := by
   rw [keptK, if_neg h63, if_neg h80, if_neg h102, if_pos h117, hp]
   show (match x.funcs[q]? with | some g => callK x k g st lv | none => true) = _
   rw [hgg]
  refine aq0 ?_;refine wvz (v := .agg [vp, vg, va, vc, vf]) (oL 0 hS) ?_;refine aq2 ?_;refine wvz (v := .str st.name) (oL 1 hS) ?_;refine wkz (hcall hS.ok) ?_;rintro _ z ⟨hk, rfl⟩;have hS := hS.mov hk;refine aq6 ?_;refine wvz (v := vf) (oL 0 hS) ?_;refine aq1 ?_;refine wvz (oI (RowP.up hrf _)) ?_;refine wvz (v := .agg [.str gg.name, .int .u64 gg.level, gp, gr, gv, gb]) (oM (Row.pt (RowP.up hrf _) hcg)) ?_;refine ws_alloc hS rfl rfl rfl rfl ?_;rintro p22 z hS hk;have hS : SH _ [_, _, _, _] z _ := hS;have hK := hS.K;refine ws_store 3 hS rfl rfl rfl rfl rfl rfl (by assumption) (nl rfl) ?_;rintro z hS;have hS : SH _ [_, _, _, _] z _ := hS;refine aq0 ?_;have hS : SH s [ptC (.ptr p0 0 0) [vp, vg, va, vc, vf], ptC (.ptr p9 0 0) [.int .i64 st.kind, .str st.name, vt, ve], emC, ptC (.ptr p22 0 0) [.str gg.name, .int .u64 gg.level, gp, gr, gv, gb]] z := hS;have hK := hS.K;refine aq1 ?_;refine wc_loop_at (fun jj m z => ∃ i : Nat, jj = st.exprs.length - i ∧ i ≤ st.exprs.length ∧ m = [(1, .int .i64 (k : Nat)), (3, .int .u64 (lv : Nat)), (4, .ptr p0 0 0), (9, .ptr p9 0 0), (10, r10), (22, .ptr p22 0 0), (23, .int .i64 (i : Nat))] ∧ SH s [ptC (.ptr p0 0 0) [vp, vg, va, vc, vf], ptC (.ptr p9 0 0) [.int .i64 st.kind, .str st.name, vt, ve], emC, ptC (.ptr p22 0 0) [.str gg.name, .int .u64 gg.level, gp, gr, gv, gb]] z ∧ (List.range i).all (fun i => wN ((lsN x (k : Nat) st).getD i 0 ||| lv) ((gg.params.map DeclL.label).getD i 0).toNat) = true) st.exprs.length
   [(1, .int .i64 (k : Nat)), (3, .int .u64 (lv : Nat)), (4, .ptr p0 0 0), (9, .ptr p9 0 0), (10, r10), (22, .ptr p22 0 0), (23, .int .i64 ((0 : Nat) : Int))] (scn rfl (scn rfl (scn rfl (scn rfl (scn rfl (scn rfl (scn rfl (Sub.nil _)))))))) ⟨0, by simp, by simp, rfl, hS, rfl⟩ ?_
  clear hS hK;rintro jj m z ⟨j, rfl, hj, rfl, hS, hA1⟩;have hK := hS.K;refine aq2 ?_;refine wvz (oN hr10l) ?_;refine aq1 ?_;refine wcd (fun h135 => ?_) (fun h135 => ?_)
  ·refine aq0 ?_;obtain ⟨d, hd⟩ : ∃ d, gg.params[j]? = some d := ⟨_, gee (by omega)⟩;have hdl := (ges.1 hd).1;have hdf := (hggf.2.2.1 d (mog hd)).2;have hdc : ((((gg.params.map DeclL.label).getD j 0).toNat : Nat) : Int) = d.label := by rw [declL_at hd, u64_cast hdf]
   have hR := Keep.refl (s := z) (hK.ok);refine wc_draw (Old z []) (by kernel_rfl) rfl ?_;refine aq2 ?_;refine wov (oJ (RowP.up hr10 _)) ?_;refine wo_load hR (v := .int .u64 (((lsN x (k : Nat) st).getD j 0 ||| lv : Nat) : Int)) rfl rfl (Row.mk_pt (RowP.up hr10 _) (lkN_at (by omega))) rfl (no_gs (RowP.egs hr10 _)) rfl rfl ?_;refine aq1 ?_;refine wo_load hR (v := gp) rfl rfl ((hS.pt 3 rfl).at (nl rfl)) rfl (fun _ _ h => by cases h) rfl rfl ?_;refine aq1 ?_;refine wov (oJ (RowP.up hgp _)) ?_;refine wov (oF (Row.mk_pt (RowP.up hgp _) hd)) ?_;refine wo_load hR (v := .int .u64 ((((gg.params.map DeclL.label).getD j 0).toNat : Nat) : Int)) rfl rfl (Pt.fld (Row.mk_pt (RowP.up hgp _) hd) _ (nl rfl)) (by rw [hdc]; rfl) (no_gs (fld_gs (RowP.egs hgp _))) rfl rfl ?_;refine wo_call0 hR rfl rfl (fun _ => rfl) (op_call rfl rfl rfl rfl) (within_ref_ok (a := (lsN x (k : Nat) st).getD j 0 ||| lv) (b := ((gg.params.map DeclL.label).getD j 0).toNat) hR.ok (or64 (lsN_64 hfi _ _ _) hlv) (by rw [declL_at hd]; exact u64_lt hdf)) (fun _ _ h => h.1) (by rintro _ _ ⟨-, rfl⟩; rfl) ?_;rintro _ sQ ⟨-, rfl⟩ hR;refine aq1 ?_;have hS := hS.mov hR;generalize St.mk sQ.ctr z.h sQ.wr = z at hS ⊢;have hK := hS.K;refine aq0 ?_;refine wc_condT rfl (fun h149 => ?_) (fun h149 => ?_)
   ·simp only [Bool.not_eq_true'] at h149;refine aq1 ?_;exact ⟨_, rfl, hK, by rw [hkK, callK, all_no (i := j) (by omega) h149]; rfl⟩
   simp only [Bool.not_eq_false'] at h149;refine aq1 ?_;refine wad ?_;refine aq1 ?_;exact rn ⟨j + 1, rfl, by omega, rfl, hS, by rw [all_succ, hA1, h149]; rfl⟩
  obtain rfl : j = st.exprs.length := by omega
  refine aq1 ?_;refine wc_loop_at (fun jj m z => ∃ i : Nat, jj = st.targets.length - i ∧ i ≤ st.targets.length ∧ m = [(1, .int .i64 (k : Nat)), (3, .int .u64 (lv : Nat)), (4, .ptr p0 0 0), (9, .ptr p9 0 0), (10, r10), (22, .ptr p22 0 0), (24, .int .i64 (i : Nat))] ∧ SH s [ptC (.ptr p0 0 0) [vp, vg, va, vc, vf], ptC (.ptr p9 0 0) [.int .i64 st.kind, .str st.name, vt, ve], emC, ptC (.ptr p22 0 0) [.str gg.name, .int .u64 gg.level, gp, gr, gv, gb]] z ∧ (List.range i).all (fun i => wN ((gg.results.getD i 0).toNat ||| lv) (nmL x (k : Nat) (st.targets.getD i ByteArray.empty))) = true) st.targets.length
   [(1, .int .i64 (k : Nat)), (3, .int .u64 (lv : Nat)), (4, .ptr p0 0 0), (9, .ptr p9 0 0), (10, r10), (22, .ptr p22 0 0), (24, .int .i64 ((0 : Nat) : Int))] (scn rfl (scn rfl (scn rfl (scn rfl (scn rfl (scn rfl (scn rfl (Sub.nil _)))))))) ⟨0, by simp, by simp, rfl, hS, rfl⟩ ?_
  clear hS hK;rintro jj m z ⟨j, rfl, hj, rfl, hS, hA2⟩;have hK := hS.K;refine aq2 ?_;refine wvz (v := vt) (oL 1 hS) ?_;refine wvz (oN hst1) ?_;refine aq1 ?_;refine wcd (fun h154 => ?_) (fun h154 => ?_)
  ·refine aq0 ?_;obtain ⟨tn, htn⟩ : ∃ d, st.targets[j]? = some d := ⟨_, gee (by omega)⟩;obtain ⟨d, hd⟩ : ∃ d, gg.results[j]? = some d := ⟨_, gee (by omega)⟩;have hdl := (ges.1 hd).1;have hdf := hggf.2.2.2.1 d (mog hd);have hdc : (((gg.results.getD j 0).toNat : Nat) : Int) = d := by rw [res_at hd, u64_cast hdf]
   have hd64 : (gg.results.getD j 0).toNat < 2 ^ 64 := by rw [res_at hd]; exact u64_lt hdf
   have hR := Keep.refl (s := z) (hK.ok);refine wc_draw (Old z []) (by kernel_rfl) rfl ?_;refine wol hR (v := .agg [vp, vg, va, vc, vf]) ((hS.pt 0 rfl).at (o := 0) (Nat.zero_le _)) (fun _ _ h => by cases h) ?_;refine aq2 ?_;refine wo_load hR (v := vt) rfl rfl ((hS.pt 1 rfl).at (nl rfl)) rfl (fun _ _ h => by cases h) rfl rfl ?_;refine aq1 ?_;refine wov (oJ (RowP.up hvt _)) ?_;refine wol hR (v := .str tn) (Row.mk_pt (RowP.up hvt _) htn) (no_gs (RowP.egs hvt _)) ?_;refine wo_call0 hR rfl rfl (fun _ => rfl) (op_call rfl rfl rfl rfl) (label_ref_ok hR.ok hx hfi hv hy) (fun _ _ h => h.1) (by rintro _ _ ⟨-, _, rfl⟩; rfl) ?_;rintro _ sQ ⟨-, b2, rfl⟩ hR;refine aq5 ?_;have hS := hS.mov hR;generalize St.mk sQ.ctr z.h sQ.wr = z at hS ⊢;refine aq1 ?_;refine wvz (v := gr) (oL 3 hS) ?_;refine aq1 ?_;refine wvz (oJ (RowP.up hgr _)) ?_;refine wvz (v := .int .u64 (((gg.results.getD j 0).toNat : Nat) : Int)) (by rw [hdc]; exact op_load rfl rfl (Row.mk_pt (RowP.up hgr _) hd) rfl) ?_;refine aq1 ?_;refine wvz (v := .int .u64 (((gg.results.getD j 0).toNat ||| lv : Nat) : Int)) (op_bin rfl rfl (by rw [← orI_nat hd64 hlv]; rfl)) ?_;refine aq1 ?_;refine wkz (within_ref_ok (a := (gg.results.getD j 0).toNat ||| lv) (b := labN x (k : Nat) (fN x (k : Nat) tn)) hS.ok (or64 hd64 hlv) (labN_64 hfi _ _)) ?_;rintro _ z ⟨hk, rfl⟩;have hS := hS.mov hk;have hK := hS.K;refine aq1 ?_;refine wc_condT rfl (fun h177 => ?_) (fun h177 => ?_)
   ·simp only [Bool.not_eq_true'] at h177;refine aq1 ?_;exact ⟨_, rfl, hK, by rw [hkK, callK, all_no (p := fun i => wN ((gg.results.getD i 0).toNat ||| lv) (nmL x (k : Nat) (st.targets.getD i ByteArray.empty))) (i := j) (by omega) (by rw [tgt_at htn]; exact h177), Bool.and_false]; rfl⟩
   simp only [Bool.not_eq_false'] at h177;refine aq1 ?_;refine wad ?_;refine aq1 ?_;exact rn ⟨j + 1, rfl, by omega, rfl, hS, by rw [all_succ, hA2, tgt_at htn, Bool.true_and]; exact h177⟩
  obtain rfl : j = st.targets.length := by omega
  refine aq2 ?_;refine wvz (v := .int .u64 ((gg.level.toNat : Nat) : Int)) (by rw [u64_cast hggf.2.1]; exact oL 3 hS) ?_;refine wkz (within_ref_ok hS.ok hlv (u64_lt hggf.2.1)) ?_;rintro _ z ⟨hk, rfl⟩;have hS := hS.mov hk;have hK := hS.K;refine aq1 ?_;exact ⟨_, rfl, hK, by rw [hkK, callK, hA1, hA2, Bool.true_and, Bool.and_true]; rfl⟩
 refine aq2 ?_;refine wcb (fun h182 => ?_) (fun h182 => ?_)
 ·refine aq0 ?_;have hrl := hio.ret h182;refine aq1 ?_;refine wc_loop_at (fun jj m z => ∃ i : Nat, jj = st.exprs.length - i ∧ i ≤ st.exprs.length ∧ m = [(1, .int .i64 (k : Nat)), (3, .int .u64 (lv : Nat)), (4, .ptr p0 0 0), (9, .ptr p9 0 0), (10, r10), (27, .int .i64 (i : Nat))] ∧ SH s [ptC (.ptr p0 0 0) [vp, vg, va, vc, vf], ptC (.ptr p9 0 0) [.int .i64 st.kind, .str st.name, vt, ve], emC] z ∧ (List.range i).all (fun i => wN ((lsN x (k : Nat) st).getD i 0 ||| lv) (y.results.getD i 0).toNat) = true) st.exprs.length
   [(1, .int .i64 (k : Nat)), (3, .int .u64 (lv : Nat)), (4, .ptr p0 0 0), (9, .ptr p9 0 0), (10, r10), (27, .int .i64 ((0 : Nat) : Int))] (scn rfl (scn rfl (scn rfl (scn rfl (scn rfl (scn rfl (Sub.nil _))))))) ⟨0, by simp, by simp, rfl, hS, rfl⟩ ?_
  clear hS hK;rintro jj m z ⟨j, rfl, hj, rfl, hS, hA3⟩;have hK := hS.K;refine aq2 ?_;refine wvz (oN hr10l) ?_;refine aq1 ?_;refine wcd (fun h187 => ?_) (fun h187 => ?_)
  ·refine aq0 ?_;obtain ⟨d, hd⟩ : ∃ d, y.results[j]? = some d := ⟨_, gee (by omega)⟩;have hdl := (ges.1 hd).1;have hdf := hyf.2.2.2.1 d (mog hd);have hdc : (((y.results.getD j 0).toNat : Nat) : Int) = d := by rw [res_at hd, u64_cast hdf]
   have hR := Keep.refl (s := z) (hK.ok);refine wc_draw (Old z []) (by kernel_rfl) rfl ?_;refine aq2 ?_;refine wov (oJ (RowP.up hr10 _)) ?_;refine wo_load hR (v := .int .u64 (((lsN x (k : Nat) st).getD j 0 ||| lv : Nat) : Int)) rfl rfl (Row.mk_pt (RowP.up hr10 _) (lkN_at (by omega))) rfl (no_gs (RowP.egs hr10 _)) rfl rfl ?_;refine aq1 ?_;refine wo_load hR (v := vf) rfl rfl ((hS.pt 0 rfl).at (nl rfl)) rfl (fun _ _ h => by cases h) rfl rfl ?_;refine aq1 ?_;refine wov (oI (RowP.up hrf _)) ?_;refine wov (oF (Row.pt (RowP.up hrf _) hcy)) ?_;refine wol hR (v := yr) (Pt.fld (Row.pt (RowP.up hrf _) hcy) _ (nl rfl)) (no_gs (fld_gs (RowP.egs hrf _))) ?_;refine aq1 ?_;refine wov (oJ (RowP.up hyr _)) ?_;refine wo_load hR (v := .int .u64 (((y.results.getD j 0).toNat : Nat) : Int)) rfl rfl (Row.mk_pt (RowP.up hyr _) hd) (by rw [hdc]; rfl) (no_gs (RowP.egs hyr _)) rfl rfl ?_;refine wo_call0 hR rfl rfl (fun _ => rfl) (op_call rfl rfl rfl rfl) (within_ref_ok (a := (lsN x (k : Nat) st).getD j 0 ||| lv) (b := (y.results.getD j 0).toNat) hR.ok (or64 (lsN_64 hfi _ _ _) hlv) (by rw [res_at hd]; exact u64_lt hdf)) (fun _ _ h => h.1) (by rintro _ _ ⟨-, rfl⟩; rfl) ?_;rintro _ sQ ⟨-, rfl⟩ hR;refine aq1 ?_;have hS := hS.mov hR;generalize St.mk sQ.ctr z.h sQ.wr = z at hS ⊢;have hK := hS.K;refine aq0 ?_;refine wc_condT rfl (fun h204 => ?_) (fun h204 => ?_)
   ·simp only [Bool.not_eq_true'] at h204;refine aq1 ?_;exact ⟨_, rfl, hK, by rw [keptK, if_neg h63, if_neg h80, if_neg h102, if_neg h117, if_pos h182, all_no (i := j) (by omega) h204]; rfl⟩
   simp only [Bool.not_eq_false'] at h204;refine aq1 ?_;refine wad ?_;refine aq1 ?_;exact rn ⟨j + 1, rfl, by omega, rfl, hS, by rw [all_succ, hA3, h204]; rfl⟩
  obtain rfl : j = st.exprs.length := by omega
  refine aq1 ?_;exact ⟨_, rfl, hK, by rw [keptK, if_neg h63, if_neg h80, if_neg h102, if_neg h117, if_pos h182, hA3]; rfl⟩
 refine aq1 ?_;exact ⟨_, rfl, hK, by rw [keptK, if_neg h63, if_neg h80, if_neg h102, if_neg h117, if_neg h182]; rfl⟩
end Go.Ab
namespace Go.Ab
open Go.Proofs
theorem stmt_ref_ok {s : St} {c : List AV} {x : SrcL} {k i : Nat} {y : FunL} {st : StmtL} (hok : s.Ok) (hx : x.small) (hv : SrcP x c) (hy : x.funcs[k]? = some y) (hst : y.body[i]? = some st) :
  CallS Try.prog Tt Kt 69 [.agg c, .int .i64 (k : Nat), .int .i64 (i : Nat)] s fun r s' => Keep [] s s' ∧ r = .int .i64 (firstF (stmtT x k y i st)).err := by
 have hz := hv.leaf;obtain ⟨vp, vg, va, vc, vf, rfl, hvp, hvg, hva, hvc, csf, hrf, hlf, hF⟩ := id hv;obtain ⟨hl1, hl2, hl3, hl4, hl5, hsm⟩ := id hx;obtain ⟨cy, hcy⟩ : ∃ c, csf[k]? = some c := ⟨_, gee (by rw [hlf]; exact (ges.1 hy).1)⟩;have hkl := (ges.1 hy).1;obtain ⟨yp, yr, yv, yb, rfl, hyp, hyr, hyv, hyb⟩ := hF k y cy hy hcy;obtain ⟨hy1, hy2, hy3, hy4, hy5⟩ := id (hsm y (mog hy));obtain ⟨csb, hbr, hbl, hbE⟩ := id hyb;have hsl := (ges.1 hst).1;obtain ⟨cst, hcst⟩ : ∃ c, csb[i]? = some c := ⟨_, gee (by omega)⟩;have hsr := hbE i st cst hst hcst;obtain ⟨vt, ve, rfl, hvt, hve⟩ := id hsr;have hss := hy5 st (mog hst);obtain ⟨hx1, hx2, hx3⟩ := id hss;obtain ⟨cse, hre, hle, hTE⟩ := id hve;have hse : ve.slen = some st.exprs.length := by rw [hre.slen, hle]
 have hst1 : vt.slen = some st.targets.length := by have := RowP.slen hvt; rwa [lmm] at this
 have hzs : ([.int .i64 st.kind, .str st.name, vt, ve] : List AV).all AV.leaf = true := (hbr.cells _ (mog hcst)).2;refine cof 214 Try.func69 ?_;refine aq0 ?_;have hS := SH.start hok;refine aq0 ?_;refine ws_box hS rfl rfl rfl hz ?_;rintro p0 z hS hk;have hS : SH _ [_] z _ := hS;refine aq2 ?_;refine wvz (v := vf) (oL 0 hS) ?_;refine aq1 ?_;refine wvz (oI (RowP.up hrf _)) ?_;refine wvz (oF (Row.pt (RowP.up hrf z.h) hcy)) ?_;refine wvz (v := yb) (oM (Pt.fld (Row.pt (RowP.up hrf z.h) hcy) _ (nl rfl))) ?_;refine aq1 ?_;refine wvz (oI (RowP.up hbr _)) ?_;refine wvz (oM (Row.pt (RowP.up hbr z.h) hcst)) ?_;refine ws_alloc hS rfl rfl rfl rfl ?_;rintro p1 z hS hk;have hS : SH _ [_, _] z _ := hS;refine ws_store 1 hS rfl rfl rfl rfl rfl rfl hzs (nl rfl) ?_;rintro z hS;have hS : SH _ [_, _] z _ := hS;refine aq0 ?_;have hS : SH s [ptC (.ptr p0 0 0) [vp, vg, va, vc, vf], ptC (.ptr p1 0 0) [.int .i64 st.kind, .str st.name, vt, ve]] z := hS;refine aq0 ?_;refine wvz (oL 1 hS) ?_;refine wkz (fits_ref_ok hS.ok hss hsr) ?_;rintro _ z ⟨hk, rfl⟩;have hS := hS.mov hk;have hK := hS.K;refine aq1 ?_;refine wc_condT rfl (fun h29 => ?_) (fun h29 => ?_)
 ·refine aq1 ?_;exact ⟨_, rfl, hK, congrArg (AV.int .i64) (sA_hit (A := []) rfl Off.nil h29).symm⟩
 refine aq1 ?_;refine wvz (v := ve) (oL 1 hS) ?_;refine wvz (oN hse) ?_;refine aq1 ?_;refine wc_condT rfl (fun h33 => ?_) (fun h33 => ?_)
 ·simp only [dtt, gt_iff_lt] at h33;refine aq1 ?_;exact ⟨_, rfl, hK, congrArg (AV.int .i64) (sA_hit (A := [_]) rfl (Off.cons h29 Off.nil) (by rw [decide_eq_true (by omega), Bool.or_true])).symm⟩
 simp only [dff, gt_iff_lt] at h33;refine aq1 ?_;refine wc_loop_at (fun jj m z => ∃ j : Nat, jj = st.exprs.length - j ∧ j ≤ st.exprs.length ∧ m = [(1, .int .i64 (k : Nat)), (2, .int .i64 (i : Nat)), (3, .ptr p0 0 0), (7, .ptr p1 0 0), (8, .int .i64 (j : Nat))] ∧ SH s [ptC (.ptr p0 0 0) [vp, vg, va, vc, vf], ptC (.ptr p1 0 0) [.int .i64 st.kind, .str st.name, vt, ve]] z ∧ ∀ (j' : Nat) (ts : List TermL), j' < j → st.exprs[j']? = some ts → ¬ (ts.length : Int) > 48) st.exprs.length
  [(1, .int .i64 (k : Nat)), (2, .int .i64 (i : Nat)), (3, .ptr p0 0 0), (7, .ptr p1 0 0), (8, .int .i64 ((0 : Nat) : Int))] (scn rfl (scn rfl (scn rfl (scn rfl (scn rfl (Sub.nil _)))))) ⟨0, by simp, by simp, rfl, hS, fun j ts h => by omega⟩ ?_
 clear hS hK;rintro jj m z ⟨j, rfl, hj, rfl, hS, hL⟩;have hK := hS.K;refine aq2 ?_;refine wvz (v := ve) (oL 1 hS) ?_;refine wvz (oN hse) ?_;refine aq1 ?_;refine wcd (fun h38 => ?_) (fun h38 => ?_)
 ·refine aq0 ?_;obtain ⟨ts, hts⟩ : ∃ d, st.exprs[j]? = some d := ⟨_, gee (by omega)⟩;obtain ⟨ct, hct⟩ : ∃ c, cse[j]? = some c := ⟨_, gee (by omega)⟩;obtain ⟨tv, rfl, htv⟩ := hTE j ts ct hts hct;refine aq1 ?_;refine wvz (v := ve) (oL 1 hS) ?_;refine aq1 ?_;refine wvz (oI (RowP.up hre _)) ?_;refine wvz (v := tv) (oM (Row.pt (RowP.up hre z.h) hct)) ?_;refine wvz (op_len rfl rfl rfl rfl rfl (RowP.slen htv |>.trans (by rw [lmm]))) ?_;refine aq1 ?_;refine wc_condT rfl (fun h47 => ?_) (fun h47 => ?_)
  ·simp only [dtt, gt_iff_lt] at h47;refine aq1 ?_;exact ⟨_, rfl, hK, congrArg (AV.int .i64) (sA_hit (A := [_]) rfl (Off.cons h29 Off.nil) (by rw [longN_t hts h47, Bool.true_or])).symm⟩
  simp only [dff, gt_iff_lt] at h47;refine aq1 ?_;refine wad ?_;refine aq1 ?_;exact rn ⟨j + 1, rfl, by omega, rfl, hS, fun j1 ts1 h1 e1 => (lsl.1 h1).elim (fun h => hL j1 ts1 h e1) fun e => by rw [e, hts] at e1; cases e1; omega⟩
 obtain rfl : j = st.exprs.length := by omega
 refine aq1 ?_;have hOA : Off (stmtA k i st) := Off.cons h29 (Off.cons (by rw [longN_f (fun j ts hj => hL j ts (ges.1 hj).1 hj), decide_eq_false (by omega)]; rfl) Off.nil);have hS := hS.nil 1;have hS : SH s [ptC (.ptr p0 0 0) [vp, vg, va, vc, vf], ptC (.ptr p1 0 0) [.int .i64 st.kind, .str st.name, vt, ve], rowC .nils 1 (([] : List Int).map iC)] z := hS;have hK := hS.K;have hU0 : UO [] ((List.range 0).flatMap (tgtT x k i st)) := UO.nil;refine aq1 ?_;refine wc_loop_at (fun jj m z => ∃ (j : Nat) (v : AV) (us : List Int), jj = st.targets.length - j ∧ j ≤ st.targets.length ∧ m = [(1, .int .i64 (k : Nat)), (2, .int .i64 (i : Nat)), (3, .ptr p0 0 0), (7, .ptr p1 0 0), (9, v), (10, .int .i64 (j : Nat))] ∧ SH s [ptC (.ptr p0 0 0) [vp, vg, va, vc, vf], ptC (.ptr p1 0 0) [.int .i64 st.kind, .str st.name, vt, ve], rowC v 1 (us.map iC)] z ∧ UO us ((List.range j).flatMap (tgtT x k i st)) ∧ us.length ≤ j) st.targets.length
  [(1, .int .i64 (k : Nat)), (2, .int .i64 (i : Nat)), (3, .ptr p0 0 0), (7, .ptr p1 0 0), (9, .nils), (10, .int .i64 ((0 : Nat) : Int))] (scn rfl (scn rfl (scn rfl (scn rfl (scn rfl (scn rfl (Sub.nil _))))))) ⟨0, .nils, [], by simp, by simp, rfl, hS, hU0, by simp⟩ ?_
 clear hS hK hU0;rintro jj m z ⟨j, v, us, rfl, hj, rfl, hS, hU, hul⟩;have hK := hS.K;refine aq2 ?_;refine wvz (v := vt) (oL 1 hS) ?_;refine wvz (oN hst1) ?_;refine aq1 ?_;refine wcd (fun h52 => ?_) (fun h52 => ?_)
 ·refine aq0 ?_;obtain ⟨tn, htn⟩ : ∃ d, st.targets[j]? = some d := ⟨_, gee (by omega)⟩;have hR := Keep.refl (s := z) hS.ok;refine wc_draw (Old z (v.gs)) (by kernel_rfl) rfl ?_;refine aq1 ?_;refine wol hR (v := .agg [vp, vg, va, vc, vf]) ((hS.pt 0 rfl).at (o := 0) (Nat.zero_le _)) (hS.dis 0 2 _ _ (by decide) rfl rfl) ?_;refine aq2 ?_;refine wo_load hR (v := vt) rfl rfl ((hS.pt 1 rfl).at (nl rfl)) rfl (hS.dis 1 2 _ _ (by decide) rfl rfl) rfl rfl ?_;refine aq1 ?_;refine wov (oJ (RowP.up hvt z.h)) ?_;refine wol hR (v := .str tn) (Row.mk_pt (RowP.up hvt z.h) htn) (no_gs (RowP.egs hvt _)) ?_;refine woc hR (use_ref_ok hR.ok hx hv) ?_;rintro _ sQ ⟨-, rfl⟩ hR;refine wo_lit (c := [.int .i64 (useR x k tn 1 2)]) [[.int .i64 (useR x k tn 1 2)]] hR rfl rfl rfl rfl rfl rfl rfl (by decide) (by decide) rfl rfl rfl (by intro c hc; rw [msi.1 hc]; exact ⟨rfl, rfl⟩) rfl ?_;rintro l1 sA hl1 hkA - -;have hR := hR.two hkA;refine wo_append hR (fun g hg => .inr hg) rfl rfl rfl rfl rfl rfl rfl rfl rfl (by decide) ((hS.row 2 rfl).keep0 hR) (hS.nls 2 rfl) hl1 (by (simp only [lmm, lnn, lcc, maxBytes]; omega)) (by (simp only [lmm, lnn, lcc, maxBytes]; omega)) ?_;rintro v2 sB hv2 hkB - hgB hnB -;refine aq1 ?_;have hS := (hS.mov hR).app1 2 rfl hkB hv2 hgB hnB;generalize sB = z at hS ⊢;refine aq1 ?_;refine wad ?_;refine aq1 ?_;have hS : SH s [ptC (.ptr p0 0 0) [vp, vg, va, vc, vf], ptC (.ptr p1 0 0) [.int .i64 st.kind, .str st.name, vt, ve], rowC v2 1 ((us ++ [useR x k tn 1 2]).map iC)] z := by rw [List.map_append]; exact hS
  exact rn ⟨j + 1, v2, us ++ [useR x k tn 1 2], rfl, by omega, rfl, hS, by
    rw [range_flat, show tgtT x k i st j = useT x k i tn [1, 2] by unfold tgtT; rw [htn]];exact hU.add (good_use _ _ _ _ _) (use_code2 _ _ _ _ _ _), by rw [laa, List.length_singleton]; omega⟩
 obtain rfl : j = st.targets.length := by omega
 refine aq1 ?_;refine wvz (v := .int .i64 st.kind) (oL 1 hS) ?_;refine w_nil ?_;refine then_n ?_
 repeat refine wc_seq ?_
 refine wc_cut (fun m z => ∃ (v : AV) (us : List Int), Sub [(1, .int .i64 (k : Nat)), (2, .int .i64 (i : Nat)), (3, .ptr p0 0 0), (7, .ptr p1 0 0), (9, v)] m ∧ SH s [ptC (.ptr p0 0 0) [vp, vg, va, vc, vf], ptC (.ptr p1 0 0) [.int .i64 st.kind, .str st.name, vt, ve], rowC v 1 (us.map iC)] z ∧ UO us ((List.range st.targets.length).flatMap (tgtT x k i st) ++ nameT x k i st) ∧ us.length ≤ 2097153) ?_ ?_
 ·refine aq2 ?_;refine wcb (fun h68 => ?_) (fun h68 => ?_)
  ·refine aq1 ?_;refine wvz (v := .agg [vp, vg, va, vc, vf]) (oL 0 hS) ?_;refine aq2 ?_;refine wvz (v := .str st.name) (oL 1 hS) ?_;refine wkz (use_ref_ok hS.ok hx hv) ?_;rintro _ z ⟨hk, rfl⟩;have hS := hS.mov hk;refine ws_lit1 hS rfl rfl rfl rfl rfl rfl rfl rfl (by decide) (by decide) rfl (by rfl) rfl ?_;rintro lt76 z hS hk hlt76;refine ws_append 2 hS rfl rfl rfl rfl rfl rfl rfl rfl rfl rfl rfl (by decide) (hlt76) (by (simp only [lmm, lnn, lcc, maxBytes]; omega)) (by (simp only [lmm, lnn, lcc, maxBytes]; omega)) ?_;rintro at77 z hS;have hS : SH _ [_, _, _] z _ := hS;refine aq1 ?_;refine cut_n ?_;have hS : SH s [ptC (.ptr p0 0 0) [vp, vg, va, vc, vf], ptC (.ptr p1 0 0) [.int .i64 st.kind, .str st.name, vt, ve], rowC at77 1 ((us ++ [useR x k st.name 3 3]).map iC)] z := by rw [List.map_append]; exact hS
   exact ⟨at77, us ++ [useR x k st.name 3 3], (scn rfl (scn rfl (scn rfl (scn rfl (scn rfl (Sub.nil _)))))), hS, by rw [nameT, if_pos h68]; exact hU.add (good_use _ _ _ _ _) (use_code1 _ _ _ _ _), by rw [laa, List.length_singleton]; omega⟩
  refine aq2 ?_;refine wcb (fun h78 => ?_) (fun h78 => ?_)
  ·refine aq1 ?_;refine wvz (v := .agg [vp, vg, va, vc, vf]) (oL 0 hS) ?_;refine aq2 ?_;refine wvz (v := .str st.name) (oL 1 hS) ?_;refine wkz (use_ref_ok hS.ok hx hv) ?_;rintro _ z ⟨hk, rfl⟩;have hS := hS.mov hk;refine ws_lit1 hS rfl rfl rfl rfl rfl rfl rfl rfl (by decide) (by decide) rfl (by rfl) rfl ?_;rintro lt86 z hS hk hlt86;refine ws_append 2 hS rfl rfl rfl rfl rfl rfl rfl rfl rfl rfl rfl (by decide) (hlt86) (by (simp only [lmm, lnn, lcc, maxBytes]; omega)) (by (simp only [lmm, lnn, lcc, maxBytes]; omega)) ?_;rintro at87 z hS;have hS : SH _ [_, _, _] z _ := hS;refine aq1 ?_;refine cut_n ?_;have hS : SH s [ptC (.ptr p0 0 0) [vp, vg, va, vc, vf], ptC (.ptr p1 0 0) [.int .i64 st.kind, .str st.name, vt, ve], rowC at87 1 ((us ++ [useR x k st.name 4 4]).map iC)] z := by rw [List.map_append]; exact hS
   exact ⟨at87, us ++ [useR x k st.name 4 4], (scn rfl (scn rfl (scn rfl (scn rfl (scn rfl (Sub.nil _)))))), hS, by rw [nameT, if_neg h68, if_pos h78]; exact hU.add (good_use _ _ _ _ _) (use_code1 _ _ _ _ _), by rw [laa, List.length_singleton]; omega⟩
  refine aq2 ?_;refine wcb (fun h88 => ?_) (fun h88 => ?_)
  ·refine aq1 ?_;refine wvz (v := .agg [vp, vg, va, vc, vf]) (oL 0 hS) ?_;refine aq2 ?_;refine wvz (v := .str st.name) (oL 1 hS) ?_;refine wkz (use_ref_ok hS.ok hx hv) ?_;rintro _ z ⟨hk, rfl⟩;have hS := hS.mov hk;refine ws_lit1 hS rfl rfl rfl rfl rfl rfl rfl rfl (by decide) (by decide) rfl (by rfl) rfl ?_;rintro lt96 z hS hk hlt96;refine ws_append 2 hS rfl rfl rfl rfl rfl rfl rfl rfl rfl rfl rfl (by decide) (hlt96) (by (simp only [lmm, lnn, lcc, maxBytes]; omega)) (by (simp only [lmm, lnn, lcc, maxBytes]; omega)) ?_;rintro at97 z hS;have hS : SH _ [_, _, _] z _ := hS;refine aq1 ?_;refine cut_n ?_;have hS : SH s [ptC (.ptr p0 0 0) [vp, vg, va, vc, vf], ptC (.ptr p1 0 0) [.int .i64 st.kind, .str st.name, vt, ve], rowC at97 1 ((us ++ [useR x k st.name 5 5]).map iC)] z := by rw [List.map_append]; exact hS
   exact ⟨at97, us ++ [useR x k st.name 5 5], (scn rfl (scn rfl (scn rfl (scn rfl (scn rfl (Sub.nil _)))))), hS, by rw [nameT, if_neg h68, if_neg h78, if_pos h88]; exact hU.add (good_use _ _ _ _ _) (use_code1 _ _ _ _ _), by rw [laa, List.length_singleton]; omega⟩
  refine aq0 ?_;refine cut_n ?_;exact ⟨v, us, (scn rfl (scn rfl (scn rfl (scn rfl (scn rfl (Sub.nil _)))))), hS, by rw [nameT, if_neg h68, if_neg h78, if_neg h88, List.append_nil]; exact hU, by omega⟩
 clear hS hK hU hul;rintro m z ⟨v, us, hm, hS, hU, hul⟩;have hK := hS.K;refine wc_sub hm ?_;refine aq1 ?_;refine wc_loop_at (fun jj m z => ∃ (j : Nat) (v : AV) (us : List Int), jj = st.exprs.length - j ∧ j ≤ st.exprs.length ∧ m = [(1, .int .i64 (k : Nat)), (2, .int .i64 (i : Nat)), (3, .ptr p0 0 0), (7, .ptr p1 0 0), (9, v), (11, .int .i64 (j : Nat))] ∧ SH s [ptC (.ptr p0 0 0) [vp, vg, va, vc, vf], ptC (.ptr p1 0 0) [.int .i64 st.kind, .str st.name, vt, ve], rowC v 1 (us.map iC)] z ∧ UO us ((List.range st.targets.length).flatMap (tgtT x k i st) ++ nameT x k i st ++ (List.range j).flatMap (exprT x k i st)) ∧ us.length ≤ 2097153 + 2097152 * j) st.exprs.length
  [(1, .int .i64 (k : Nat)), (2, .int .i64 (i : Nat)), (3, .ptr p0 0 0), (7, .ptr p1 0 0), (9, v), (11, .int .i64 ((0 : Nat) : Int))] (scn rfl (scn rfl (scn rfl (scn rfl (scn rfl (scn rfl (Sub.nil _))))))) ⟨0, v, us, by simp, by simp, rfl, hS, by rw [List.range_zero, List.flatMap_nil, List.append_nil]; exact hU, by omega⟩ ?_
 clear hS hK hU hul;rintro jj m z ⟨j, v, us, rfl, hj, rfl, hS, hU, hul⟩;have hK := hS.K;refine aq2 ?_;refine wvz (v := ve) (oL 1 hS) ?_;refine wvz (oN hse) ?_;refine aq1 ?_;refine wcd (fun h102 => ?_) (fun h102 => ?_)
 ·refine aq0 ?_;obtain ⟨ts, hts⟩ : ∃ d, st.exprs[j]? = some d := ⟨_, gee (by omega)⟩;obtain ⟨ct, hct⟩ : ∃ c, cse[j]? = some c := ⟨_, gee (by omega)⟩;obtain ⟨tv, rfl, htv⟩ := hTE j ts ct hts hct;have hsts := hx3 ts (mog hts);have hte : exprT x k i st j = (List.range ts.length).flatMap (termT x k i ts) := by unfold exprT; rw [hts]
  refine aq1 ?_;refine wc_loop_at (fun jj m z => ∃ (n : Nat) (v : AV) (us : List Int), jj = ts.length - n ∧ n ≤ ts.length ∧ m = [(1, .int .i64 (k : Nat)), (2, .int .i64 (i : Nat)), (3, .ptr p0 0 0), (7, .ptr p1 0 0), (9, v), (11, .int .i64 (j : Nat)), (12, .int .i64 (n : Nat))] ∧ SH s [ptC (.ptr p0 0 0) [vp, vg, va, vc, vf], ptC (.ptr p1 0 0) [.int .i64 st.kind, .str st.name, vt, ve], rowC v 1 (us.map iC)] z ∧ UO us ((List.range st.targets.length).flatMap (tgtT x k i st) ++ nameT x k i st ++ (List.range j).flatMap (exprT x k i st) ++ (List.range n).flatMap (termT x k i ts)) ∧ us.length ≤ 2097153 + 2097152 * j + n) ts.length
   [(1, .int .i64 (k : Nat)), (2, .int .i64 (i : Nat)), (3, .ptr p0 0 0), (7, .ptr p1 0 0), (9, v), (11, .int .i64 (j : Nat)), (12, .int .i64 ((0 : Nat) : Int))] (scn rfl (scn rfl (scn rfl (scn rfl (scn rfl (scn rfl (scn rfl (Sub.nil _)))))))) ⟨0, v, us, by simp, by simp, rfl, hS, by rw [List.range_zero, List.flatMap_nil, List.append_nil]; exact hU, by omega⟩ ?_
  clear hS hK hU hul;rintro jj m z ⟨n, v, us, rfl, hn, rfl, hS, hU, hul⟩;refine aq2 ?_;refine wvz (v := ve) (oL 1 hS) ?_;refine aq1 ?_;refine wvz (oI (RowP.up hre _)) ?_;refine wvz (v := tv) (oM (Row.pt (RowP.up hre z.h) hct)) ?_;refine wvz (op_len rfl rfl rfl rfl rfl (RowP.slen htv |>.trans (by rw [lmm]))) ?_;refine aq1 ?_;refine wcd (fun h112 => ?_) (fun h112 => ?_)
  ·refine aq0 ?_;obtain ⟨t, ht⟩ : ∃ d, ts[n]? = some d := ⟨_, gee (by omega)⟩;refine aq1 ?_;refine wvz (v := ve) (oL 1 hS) ?_;refine aq1 ?_;refine wvz (oI (RowP.up hre _)) ?_;refine wvz (v := tv) (oM (Row.pt (RowP.up hre z.h) hct)) ?_;refine aq1 ?_;refine wvz (oJ (RowP.up htv _)) ?_;refine wvz (oM (Row.mk_pt (RowP.up htv z.h) ht)) ?_;refine ws_alloc hS rfl rfl rfl rfl ?_;rintro p13 z hS hk;have hS : SH _ [_, _, _, _] z _ := hS;refine ws_store 3 hS rfl rfl rfl rfl rfl rfl (by rfl) (nl rfl) ?_;rintro z hS;have hS : SH _ [_, _, _, _] z _ := hS;refine aq0 ?_;have hS : SH s [ptC (.ptr p0 0 0) [vp, vg, va, vc, vf], ptC (.ptr p1 0 0) [.int .i64 st.kind, .str st.name, vt, ve], rowC v 1 (us.map iC), ptC (.ptr p13 0 0) (tC t)] z := hS;refine aq1 ?_;refine wvz (oL 3 hS) ?_;refine aq1 ?_;refine wcb (fun h125 => ?_) (fun h125 => ?_)
   ·refine aq1 ?_;refine wvz (v := .agg [vp, vg, va, vc, vf]) (oL 0 hS) ?_;refine aq2 ?_;refine wvz (v := .str t.name) (oL 3 hS) ?_;refine wkz (use_ref_ok hS.ok hx hv) ?_;rintro _ z ⟨hk, rfl⟩;have hS := hS.mov hk;refine ws_lit1 hS rfl rfl rfl rfl rfl rfl rfl rfl (by decide) (by decide) rfl (by rfl) rfl ?_;rintro lt132 z hS hk hlt132;refine ws_append 2 hS rfl rfl rfl rfl rfl rfl rfl rfl rfl rfl rfl (by decide) (hlt132) (by (simp only [lmm, lnn, lcc, maxBytes]; omega)) (by (simp only [lmm, lnn, lcc, maxBytes]; omega)) ?_;rintro at133 z hS;have hS : SH _ [_, _, _, _] z _ := hS;refine aq2 ?_;refine wvz (oL 3 hS) ?_;refine aq1 ?_;refine wcb (fun h136 => ?_) (fun h136 => ?_)
    ·refine aq1 ?_;refine wvz (v := .agg [vp, vg, va, vc, vf]) (oL 0 hS) ?_;refine aq2 ?_;refine wvz (v := .str t.name) (oL 3 hS) ?_;refine wkz (use_ref_ok hS.ok hx hv) ?_;rintro _ z ⟨hk, rfl⟩;have hS := hS.mov hk;refine ws_lit1 hS rfl rfl rfl rfl rfl rfl rfl rfl (by decide) (by decide) rfl (by rfl) rfl ?_;rintro lt143 z hS hk hlt143;refine ws_append 2 hS rfl rfl rfl rfl rfl rfl rfl rfl rfl rfl rfl (by decide) (hlt143) (by (simp only [lmm, lnn, laa, lcc, maxBytes]; omega)) (by (simp only [lmm, lnn, laa, lcc, maxBytes]; omega)) ?_;rintro at144 z hS;have hS : SH _ [_, _, _, _] z _ := hS;refine aq2 ?_;refine wad ?_;refine aq1 ?_
     exfalso; omega
    refine aq1 ?_;refine wad ?_;refine aq1 ?_;have hS : SH s [ptC (.ptr p0 0 0) [vp, vg, va, vc, vf], ptC (.ptr p1 0 0) [.int .i64 st.kind, .str st.name, vt, ve], rowC at133 1 ((us ++ [useR x k t.name 1 2]).map iC)] z := by rw [List.map_append]; exact hS.sub (.cons_cons _ (.cons_cons _ (.cons_cons _ (.cons _ (.refl _)))))
    exact rn ⟨n + 1, at133, us ++ [useR x k t.name 1 2], rfl, by omega, rfl, hS, by
      rw [range_flat, ← aas, termT_at ht, if_pos h125];exact hU.add (good_use _ _ _ _ _) (use_code2 _ _ _ _ _ _), by rw [laa, List.length_singleton]; omega⟩
   refine aq1 ?_;refine wvz (oL 3 hS) ?_;refine aq1 ?_;refine wcb (fun h136 => ?_) (fun h136 => ?_)
   ·refine aq1 ?_;refine wvz (v := .agg [vp, vg, va, vc, vf]) (oL 0 hS) ?_;refine aq2 ?_;refine wvz (v := .str t.name) (oL 3 hS) ?_;refine wkz (use_ref_ok hS.ok hx hv) ?_;rintro _ z ⟨hk, rfl⟩;have hS := hS.mov hk;refine ws_lit1 hS rfl rfl rfl rfl rfl rfl rfl rfl (by decide) (by decide) rfl (by rfl) rfl ?_;rintro lt143 z hS hk hlt143;refine ws_append 2 hS rfl rfl rfl rfl rfl rfl rfl rfl rfl rfl rfl (by decide) (hlt143) (by (simp only [lmm, lnn, lcc, maxBytes]; omega)) (by (simp only [lmm, lnn, lcc, maxBytes]; omega)) ?_;rintro at144 z hS;have hS : SH _ [_, _, _, _] z _ := hS;refine aq2 ?_;refine wad ?_;refine aq1 ?_;have hS : SH s [ptC (.ptr p0 0 0) [vp, vg, va, vc, vf], ptC (.ptr p1 0 0) [.int .i64 st.kind, .str st.name, vt, ve], rowC at144 1 ((us ++ [useR x k t.name 3 3]).map iC)] z := by rw [List.map_append]; exact hS.sub (.cons_cons _ (.cons_cons _ (.cons_cons _ (.cons _ (.refl _)))))
    exact rn ⟨n + 1, at144, us ++ [useR x k t.name 3 3], rfl, by omega, rfl, hS, by
      rw [range_flat, ← aas, termT_at ht, if_neg h125, if_pos h136];exact hU.add (good_use _ _ _ _ _) (use_code1 _ _ _ _ _), by rw [laa, List.length_singleton]; omega⟩
   refine aq1 ?_;refine wad ?_;refine aq1 ?_;have hS : SH s [ptC (.ptr p0 0 0) [vp, vg, va, vc, vf], ptC (.ptr p1 0 0) [.int .i64 st.kind, .str st.name, vt, ve], rowC v 1 (us.map iC)] z := hS.sub (.cons_cons _ (.cons_cons _ (.cons_cons _ (.cons _ (.refl _)))));exact rn ⟨n + 1, v, us, rfl, by omega, rfl, hS, by
     rw [range_flat, ← aas, termT_at ht, if_neg h125, if_neg h136, List.append_nil];exact hU, by omega⟩
  obtain rfl : n = ts.length := by omega
  refine aq1 ?_;refine wad ?_;refine aq1 ?_;exact rn ⟨j + 1, v, us, rfl, by omega, rfl, hS, by rw [range_flat, hte, ← aas]; exact hU, by omega⟩
 obtain rfl : j = st.exprs.length := by omega
 refine aq1 ?_;have hU : UO us (usesT x k i st) := hU;refine wc_loop_at (fun jj m z => ∃ j : Nat, jj = us.length - j ∧ j ≤ us.length ∧ m = [(1, .int .i64 (k : Nat)), (2, .int .i64 (i : Nat)), (3, .ptr p0 0 0), (7, .ptr p1 0 0), (9, v), (14, .int .i64 (j : Nat))] ∧ SH s [ptC (.ptr p0 0 0) [vp, vg, va, vc, vf], ptC (.ptr p1 0 0) [.int .i64 st.kind, .str st.name, vt, ve], rowC v 1 (us.map iC)] z ∧ ∀ j', j' < j → us.getD j' 0 = 0) us.length
  [(1, .int .i64 (k : Nat)), (2, .int .i64 (i : Nat)), (3, .ptr p0 0 0), (7, .ptr p1 0 0), (9, v), (14, .int .i64 ((0 : Nat) : Int))] (scn rfl (scn rfl (scn rfl (scn rfl (scn rfl (scn rfl (Sub.nil _))))))) ⟨0, by simp, by simp, rfl, hS, fun j h => by omega⟩ ?_
 clear hS hK;rintro jj m z ⟨j, rfl, hj, rfl, hS, hQ⟩;have hK := hS.K;refine aq2 ?_;refine wvz (op_len rfl rfl rfl rfl rfl ((hS.row 2 rfl).slen.trans (by rw [lmm]))) ?_;refine aq1 ?_;refine wcd (fun h148 => ?_) (fun h148 => ?_)
 ·refine aq0 ?_;obtain ⟨u, hu⟩ : ∃ u, us[j]? = some u := ⟨_, gee (by omega)⟩;refine aq2 ?_;refine wvz (oJ (hS.row 2 rfl)) ?_;refine wvz (v := .int .i64 u) (oM (Row.mk_pt (hS.row 2 rfl) hu)) ?_;refine aq1 ?_;refine wc_condT rfl (fun h155 => ?_) (fun h155 => ?_)
  ·simp only [ne_eq, bne_iff_ne] at h155;refine aq2 ?_;refine wvz (oJ (hS.row 2 rfl)) ?_;refine wvz (v := .int .i64 u) (oM (Row.mk_pt (hS.row 2 rfl) hu)) ?_;refine aq1 ?_;exact ⟨_, rfl, hK, congrArg (AV.int .i64) (sU_hit hOA hU (fnz_hit hQ hu h155) h155).symm⟩
  simp only [bne_eq_false_iff_eq] at h155;refine aq1 ?_;refine wad ?_;refine aq1 ?_;exact rn ⟨j + 1, rfl, by omega, rfl, hS, fun j1 h1 => (lsl.1 h1).elim (hQ j1) fun e => by rw [e, gdd, hu]; exact h155⟩
 obtain rfl : j = us.length := by omega
 have hOU := uses_off hU (fnz_zero hQ);refine aq0 ?_;refine wc_draw (fun _ => True) (by kernel_rfl) rfl ?_;refine wdv (op_fldP rfl rfl rfl rfl (by decide)) ?_;refine wdv (v := .int .i64 st.kind) (oM (Pt.bare ((hS.pt 1 rfl).at (nl rfl)))) ?_;refine aq2 ?_;refine wd_split (i := 163) rfl (fun h163 => ?_) (fun h163 => ?_)
 ·simp only [beq_iff_eq] at h163;refine wdv (op_fldP rfl rfl rfl rfl (by decide)) ?_;refine wdv (v := ve) (oM (Pt.bare ((hS.pt 1 rfl).at (nl rfl)))) ?_;refine wdv (oN hse) ?_;refine wdv (op_fldP rfl rfl rfl rfl (by decide)) ?_;refine wdv (v := vf) (oM (Pt.bare ((hS.pt 0 rfl).at (nl rfl)))) ?_;refine aq1 ?_;refine wdv (oI (RowP.up hrf _)) ?_;refine wdv (oF (Row.pt (RowP.up hrf _) hcy)) ?_;refine wdv (v := yr) (oM (Pt.fld (Row.pt (RowP.up hrf _) hcy) _ (nl rfl))) ?_;refine wdv (op_len rfl rfl rfl rfl rfl (RowP.slen hyr |>.trans (by rw [lmm]))) ?_;refine aq2 ?_;refine wc_condT rfl (fun h175 => ?_) (fun h175 => ?_)
  ·refine aq1 ?_
   first
   | exact ⟨_, rfl, hK, congrArg (AV.int .i64) (sR_hit hOA hOU h163 h175).symm⟩
   | exact ⟨_, rfl, hK, congrArg (AV.int .i64) (sC_0 hOA hOU hOR (call_off h178)).symm⟩
   | exact ⟨_, rfl, hK, congrArg (AV.int .i64) (sC_1 hOA hOU hOR hcT (or3a h199)).symm⟩
   | exact ⟨_, rfl, hK, congrArg (AV.int .i64) (sC_1 hOA hOU hOR hcT (or3b h204 h213)).symm⟩
   | exact ⟨_, rfl, hK, congrArg (AV.int .i64) (sC_2 hOA hOU hOR hcT (or3c h199 h204 h213)).symm⟩
   | exact ⟨_, rfl, hK, congrArg (AV.int .i64) (sC_2 hOA hOU hOR hcT (or3d h199 h204)).symm⟩
  refine aq0 ?_;have hOR : Off (retT k y i st) := ret_off (fun h => by first | exact h175 | exact (h163 h).elim);refine aq1 ?_;refine wvz (v := .int .i64 st.kind) (oL 1 hS) ?_;refine aq1 ?_;refine wcb (fun h178 => ?_) (fun h178 => ?_)
  ·refine aq0 ?_;have h5 := call_kind hOU h178;obtain ⟨q, gx, hq, hgx⟩ := fN_fn h5;have hql := (ges.1 hgx).1;obtain ⟨cg, hcg⟩ : ∃ c, csf[q]? = some c := ⟨_, gee (by omega)⟩;obtain ⟨gp, gr, gv, gb, rfl, hgp, hgr, hgv, hgb⟩ := hF q gx cg hgx hcg;have hzg : ([.str gx.name, .int .u64 gx.level, gp, gr, gv, gb] : List AV).all AV.leaf = true := (hrf.cells _ (mog hcg)).2;have hcT : callT x k i st = [((st.exprs.length : Int) != (gx.params.length : Int) || (decide ((st.targets.length : Int) > 0) && (st.targets.length : Int) != (gx.results.length : Int)), ⟨73, k, i⟩)] := by
    unfold callT; rw [if_pos ⟨h178, h5⟩, hq, Int.toNat_natCast, hgx]
   have hpos : decide ((st.targets.length : Int) > 0) = ((st.targets.length : Int) != 0) := by
    by_cases h : (st.targets.length : Int) = 0
    ·rw [h]; rfl
    ·rw [decide_eq_true (by omega)]; symm; rw [bne_iff_ne]; exact h
   rw [hpos] at hcT;refine aq0 ?_;refine wvz (v := .agg [vp, vg, va, vc, vf]) (oL 0 hS) ?_;refine aq2 ?_;refine wvz (v := .str st.name) (oL 1 hS) ?_;refine wkz (find_ref_ok hS.ok hx hv) ?_;rintro _ z ⟨hk, rfl⟩;have hS := hS.mov hk;rw [hq];refine aq6 ?_;refine wvz (v := vf) (oL 0 hS) ?_;refine aq1 ?_;refine wvz (oI (RowP.up hrf _)) ?_;refine wvz (oM (Row.pt (RowP.up hrf z.h) hcg)) ?_;refine ws_alloc hS rfl rfl rfl rfl ?_;rintro p17 z hS hk;have hS : SH _ [_, _, _, _] z _ := hS;refine ws_store 3 hS rfl rfl rfl rfl rfl rfl hzg (nl rfl) ?_;rintro z hS;have hS : SH _ [_, _, _, _] z _ := hS;have hK := hS.K;refine aq0 ?_;have hS : SH s [ptC (.ptr p0 0 0) [vp, vg, va, vc, vf], ptC (.ptr p1 0 0) [.int .i64 st.kind, .str st.name, vt, ve], rowC v 1 (us.map iC), ptC (.ptr p17 0 0) [.str gx.name, .int .u64 gx.level, gp, gr, gv, gb]] z := hS;refine aq1 ?_;refine wvz (v := ve) (oL 1 hS) ?_;refine wvz (oN hse) ?_;refine aq1 ?_;refine wvz (v := gp) (oL 3 hS) ?_;refine wvz (op_len rfl rfl rfl rfl rfl (RowP.slen hgp |>.trans (by rw [lmm]))) ?_;refine aq2 ?_;refine w_split (i := 199) rfl (fun h199 => ?_) (fun h199 => ?_)
   ·refine aq12 ?_;refine aq2 ?_;refine wc_cond_t rfl ?_;refine aq1 ?_
    first
    | exact ⟨_, rfl, hK, congrArg (AV.int .i64) (sR_hit hOA hOU h163 h175).symm⟩
    | exact ⟨_, rfl, hK, congrArg (AV.int .i64) (sC_0 hOA hOU hOR (call_off h178)).symm⟩
    | exact ⟨_, rfl, hK, congrArg (AV.int .i64) (sC_1 hOA hOU hOR hcT (or3a h199)).symm⟩
    | exact ⟨_, rfl, hK, congrArg (AV.int .i64) (sC_1 hOA hOU hOR hcT (or3b h204 h213)).symm⟩
    | exact ⟨_, rfl, hK, congrArg (AV.int .i64) (sC_2 hOA hOU hOR hcT (or3c h199 h204 h213)).symm⟩
    | exact ⟨_, rfl, hK, congrArg (AV.int .i64) (sC_2 hOA hOU hOR hcT (or3d h199 h204)).symm⟩
   refine aq1 ?_;refine wvz (v := vt) (oL 1 hS) ?_;refine wvz (oN hst1) ?_;refine aq2 ?_;refine w_split (i := 204) rfl (fun h204 => ?_) (fun h204 => ?_)
   ·refine aq1 ?_;refine wvz (v := vt) (oL 1 hS) ?_;refine wvz (oN hst1) ?_;refine aq1 ?_;refine wvz (v := gr) (oL 3 hS) ?_;refine wvz (op_len rfl rfl rfl rfl rfl (RowP.slen hgr |>.trans (by rw [lmm]))) ?_;refine aq3 ?_;refine wc_condT rfl (fun h213 => ?_) (fun h213 => ?_)
    ·refine aq1 ?_
     first
     | exact ⟨_, rfl, hK, congrArg (AV.int .i64) (sR_hit hOA hOU h163 h175).symm⟩
     | exact ⟨_, rfl, hK, congrArg (AV.int .i64) (sC_0 hOA hOU hOR (call_off h178)).symm⟩
     | exact ⟨_, rfl, hK, congrArg (AV.int .i64) (sC_1 hOA hOU hOR hcT (or3a h199)).symm⟩
     | exact ⟨_, rfl, hK, congrArg (AV.int .i64) (sC_1 hOA hOU hOR hcT (or3b h204 h213)).symm⟩
     | exact ⟨_, rfl, hK, congrArg (AV.int .i64) (sC_2 hOA hOU hOR hcT (or3c h199 h204 h213)).symm⟩
     | exact ⟨_, rfl, hK, congrArg (AV.int .i64) (sC_2 hOA hOU hOR hcT (or3d h199 h204)).symm⟩
    refine aq1 ?_
    first
    | exact ⟨_, rfl, hK, congrArg (AV.int .i64) (sR_hit hOA hOU h163 h175).symm⟩
    | exact ⟨_, rfl, hK, congrArg (AV.int .i64) (sC_0 hOA hOU hOR (call_off h178)).symm⟩
    | exact ⟨_, rfl, hK, congrArg (AV.int .i64) (sC_1 hOA hOU hOR hcT (or3a h199)).symm⟩
    | exact ⟨_, rfl, hK, congrArg (AV.int .i64) (sC_1 hOA hOU hOR hcT (or3b h204 h213)).symm⟩
    | exact ⟨_, rfl, hK, congrArg (AV.int .i64) (sC_2 hOA hOU hOR hcT (or3c h199 h204 h213)).symm⟩
    | exact ⟨_, rfl, hK, congrArg (AV.int .i64) (sC_2 hOA hOU hOR hcT (or3d h199 h204)).symm⟩
   refine aq9 ?_;refine wc_cond_f rfl ?_;refine aq1 ?_
   first
   | exact ⟨_, rfl, hK, congrArg (AV.int .i64) (sR_hit hOA hOU h163 h175).symm⟩
   | exact ⟨_, rfl, hK, congrArg (AV.int .i64) (sC_0 hOA hOU hOR (call_off h178)).symm⟩
   | exact ⟨_, rfl, hK, congrArg (AV.int .i64) (sC_1 hOA hOU hOR hcT (or3a h199)).symm⟩
   | exact ⟨_, rfl, hK, congrArg (AV.int .i64) (sC_1 hOA hOU hOR hcT (or3b h204 h213)).symm⟩
   | exact ⟨_, rfl, hK, congrArg (AV.int .i64) (sC_2 hOA hOU hOR hcT (or3c h199 h204 h213)).symm⟩
   | exact ⟨_, rfl, hK, congrArg (AV.int .i64) (sC_2 hOA hOU hOR hcT (or3d h199 h204)).symm⟩
  refine aq1 ?_
  first
  | exact ⟨_, rfl, hK, congrArg (AV.int .i64) (sR_hit hOA hOU h163 h175).symm⟩
  | exact ⟨_, rfl, hK, congrArg (AV.int .i64) (sC_0 hOA hOU hOR (call_off h178)).symm⟩
  | exact ⟨_, rfl, hK, congrArg (AV.int .i64) (sC_1 hOA hOU hOR hcT (or3a h199)).symm⟩
  | exact ⟨_, rfl, hK, congrArg (AV.int .i64) (sC_1 hOA hOU hOR hcT (or3b h204 h213)).symm⟩
  | exact ⟨_, rfl, hK, congrArg (AV.int .i64) (sC_2 hOA hOU hOR hcT (or3c h199 h204 h213)).symm⟩
  | exact ⟨_, rfl, hK, congrArg (AV.int .i64) (sC_2 hOA hOU hOR hcT (or3d h199 h204)).symm⟩
 simp only [bff, ne_eq] at h163;refine aq12 ?_;refine wc_cond_f rfl ?_;refine aq0 ?_;have hOR : Off (retT k y i st) := ret_off (fun h => by first | exact h175 | exact (h163 h).elim);refine aq1 ?_;refine wvz (v := .int .i64 st.kind) (oL 1 hS) ?_;refine aq1 ?_;refine wcb (fun h178 => ?_) (fun h178 => ?_)
 ·refine aq0 ?_;have h5 := call_kind hOU h178;obtain ⟨q, gx, hq, hgx⟩ := fN_fn h5;have hql := (ges.1 hgx).1;obtain ⟨cg, hcg⟩ : ∃ c, csf[q]? = some c := ⟨_, gee (by omega)⟩;obtain ⟨gp, gr, gv, gb, rfl, hgp, hgr, hgv, hgb⟩ := hF q gx cg hgx hcg;have hzg : ([.str gx.name, .int .u64 gx.level, gp, gr, gv, gb] : List AV).all AV.leaf = true := (hrf.cells _ (mog hcg)).2;have hcT : callT x k i st = [((st.exprs.length : Int) != (gx.params.length : Int) || (decide ((st.targets.length : Int) > 0) && (st.targets.length : Int) != (gx.results.length : Int)), ⟨73, k, i⟩)] := by
   unfold callT; rw [if_pos ⟨h178, h5⟩, hq, Int.toNat_natCast, hgx]
  have hpos : decide ((st.targets.length : Int) > 0) = ((st.targets.length : Int) != 0) := by
   by_cases h : (st.targets.length : Int) = 0
   ·rw [h]; rfl
   ·rw [decide_eq_true (by omega)]; symm; rw [bne_iff_ne]; exact h
  rw [hpos] at hcT;refine aq0 ?_;refine wvz (v := .agg [vp, vg, va, vc, vf]) (oL 0 hS) ?_;refine aq2 ?_;refine wvz (v := .str st.name) (oL 1 hS) ?_;refine wkz (find_ref_ok hS.ok hx hv) ?_;rintro _ z ⟨hk, rfl⟩;have hS := hS.mov hk;rw [hq];refine aq6 ?_;refine wvz (v := vf) (oL 0 hS) ?_;refine aq1 ?_;refine wvz (oI (RowP.up hrf _)) ?_;refine wvz (oM (Row.pt (RowP.up hrf z.h) hcg)) ?_;refine ws_alloc hS rfl rfl rfl rfl ?_;rintro p17 z hS hk;have hS : SH _ [_, _, _, _] z _ := hS;refine ws_store 3 hS rfl rfl rfl rfl rfl rfl hzg (nl rfl) ?_;rintro z hS;have hS : SH _ [_, _, _, _] z _ := hS;have hK := hS.K;refine aq0 ?_;have hS : SH s [ptC (.ptr p0 0 0) [vp, vg, va, vc, vf], ptC (.ptr p1 0 0) [.int .i64 st.kind, .str st.name, vt, ve], rowC v 1 (us.map iC), ptC (.ptr p17 0 0) [.str gx.name, .int .u64 gx.level, gp, gr, gv, gb]] z := hS;refine aq1 ?_;refine wvz (v := ve) (oL 1 hS) ?_;refine wvz (oN hse) ?_;refine aq1 ?_;refine wvz (v := gp) (oL 3 hS) ?_;refine wvz (op_len rfl rfl rfl rfl rfl (RowP.slen hgp |>.trans (by rw [lmm]))) ?_;refine aq2 ?_;refine w_split (i := 199) rfl (fun h199 => ?_) (fun h199 => ?_)
  ·refine aq12 ?_;refine aq2 ?_;refine wc_cond_t rfl ?_;refine aq1 ?_
   first
   | exact ⟨_, rfl, hK, congrArg (AV.int .i64) (sR_hit hOA hOU h163 h175).symm⟩
   | exact ⟨_, rfl, hK, congrArg (AV.int .i64) (sC_0 hOA hOU hOR (call_off h178)).symm⟩
   | exact ⟨_, rfl, hK, congrArg (AV.int .i64) (sC_1 hOA hOU hOR hcT (or3a h199)).symm⟩
   | exact ⟨_, rfl, hK, congrArg (AV.int .i64) (sC_1 hOA hOU hOR hcT (or3b h204 h213)).symm⟩
   | exact ⟨_, rfl, hK, congrArg (AV.int .i64) (sC_2 hOA hOU hOR hcT (or3c h199 h204 h213)).symm⟩
   | exact ⟨_, rfl, hK, congrArg (AV.int .i64) (sC_2 hOA hOU hOR hcT (or3d h199 h204)).symm⟩
  refine aq1 ?_;refine wvz (v := vt) (oL 1 hS) ?_;refine wvz (oN hst1) ?_;refine aq2 ?_;refine w_split (i := 204) rfl (fun h204 => ?_) (fun h204 => ?_)
  ·refine aq1 ?_;refine wvz (v := vt) (oL 1 hS) ?_;refine wvz (oN hst1) ?_;refine aq1 ?_;refine wvz (v := gr) (oL 3 hS) ?_;refine wvz (op_len rfl rfl rfl rfl rfl (RowP.slen hgr |>.trans (by rw [lmm]))) ?_;refine aq3 ?_;refine wc_condT rfl (fun h213 => ?_) (fun h213 => ?_)
   ·refine aq1 ?_
    first
    | exact ⟨_, rfl, hK, congrArg (AV.int .i64) (sR_hit hOA hOU h163 h175).symm⟩
    | exact ⟨_, rfl, hK, congrArg (AV.int .i64) (sC_0 hOA hOU hOR (call_off h178)).symm⟩
    | exact ⟨_, rfl, hK, congrArg (AV.int .i64) (sC_1 hOA hOU hOR hcT (or3a h199)).symm⟩
    | exact ⟨_, rfl, hK, congrArg (AV.int .i64) (sC_1 hOA hOU hOR hcT (or3b h204 h213)).symm⟩
    | exact ⟨_, rfl, hK, congrArg (AV.int .i64) (sC_2 hOA hOU hOR hcT (or3c h199 h204 h213)).symm⟩
    | exact ⟨_, rfl, hK, congrArg (AV.int .i64) (sC_2 hOA hOU hOR hcT (or3d h199 h204)).symm⟩
   refine aq1 ?_
   first
   | exact ⟨_, rfl, hK, congrArg (AV.int .i64) (sR_hit hOA hOU h163 h175).symm⟩
   | exact ⟨_, rfl, hK, congrArg (AV.int .i64) (sC_0 hOA hOU hOR (call_off h178)).symm⟩
   | exact ⟨_, rfl, hK, congrArg (AV.int .i64) (sC_1 hOA hOU hOR hcT (or3a h199)).symm⟩
   | exact ⟨_, rfl, hK, congrArg (AV.int .i64) (sC_1 hOA hOU hOR hcT (or3b h204 h213)).symm⟩
   | exact ⟨_, rfl, hK, congrArg (AV.int .i64) (sC_2 hOA hOU hOR hcT (or3c h199 h204 h213)).symm⟩
   | exact ⟨_, rfl, hK, congrArg (AV.int .i64) (sC_2 hOA hOU hOR hcT (or3d h199 h204)).symm⟩
  refine aq9 ?_;refine wc_cond_f rfl ?_;refine aq1 ?_
  first
  | exact ⟨_, rfl, hK, congrArg (AV.int .i64) (sR_hit hOA hOU h163 h175).symm⟩
  | exact ⟨_, rfl, hK, congrArg (AV.int .i64) (sC_0 hOA hOU hOR (call_off h178)).symm⟩
  | exact ⟨_, rfl, hK, congrArg (AV.int .i64) (sC_1 hOA hOU hOR hcT (or3a h199)).symm⟩
  | exact ⟨_, rfl, hK, congrArg (AV.int .i64) (sC_1 hOA hOU hOR hcT (or3b h204 h213)).symm⟩
  | exact ⟨_, rfl, hK, congrArg (AV.int .i64) (sC_2 hOA hOU hOR hcT (or3c h199 h204 h213)).symm⟩
  | exact ⟨_, rfl, hK, congrArg (AV.int .i64) (sC_2 hOA hOU hOR hcT (or3d h199 h204)).symm⟩
 refine aq1 ?_
 first
 | exact ⟨_, rfl, hK, congrArg (AV.int .i64) (sR_hit hOA hOU h163 h175).symm⟩
 | exact ⟨_, rfl, hK, congrArg (AV.int .i64) (sC_0 hOA hOU hOR (call_off h178)).symm⟩
 | exact ⟨_, rfl, hK, congrArg (AV.int .i64) (sC_1 hOA hOU hOR hcT (or3a h199)).symm⟩
 | exact ⟨_, rfl, hK, congrArg (AV.int .i64) (sC_1 hOA hOU hOR hcT (or3b h204 h213)).symm⟩
 | exact ⟨_, rfl, hK, congrArg (AV.int .i64) (sC_2 hOA hOU hOR hcT (or3c h199 h204 h213)).symm⟩
 | exact ⟨_, rfl, hK, congrArg (AV.int .i64) (sC_2 hOA hOU hOR hcT (or3d h199 h204)).symm⟩
end Go.Ab
namespace Go.Ab
open Go.Proofs
theorem check_ref_ok {s : St} {c : List AV} {x : SrcL} (hok : s.Ok) (hx : x.small) (hfi : x.fine) (hv : SrcP x c) :
  CallS Try.prog Tt Kt 28 [.agg c] s fun r s' => Keep [] s s' ∧ r = .agg (fltC (firstF (checkL x))) := by
 have hz := hv.leaf;obtain ⟨vp, vg, va, vc, vf, rfl, hvp, hvg, hva, hvc, csf, hrf, hlf, hF⟩ := id hv;obtain ⟨hl1, hl2, hl3, hl4, hl5, hsm⟩ := id hx;have hsf : vf.slen = some x.funcs.length := by rw [hrf.slen, hlf]
 refine cof 51 Try.func28 ?_;refine aq0 ?_;have hS := SH.start hok;refine aq0 ?_;refine ws_box hS rfl rfl rfl hz ?_;rintro p0 z hS hk;have hS : SH _ [_] z _ := hS;refine ws_alloc hS rfl rfl rfl rfl ?_;rintro p1 z hS hk;have hS : SH _ [_, _] z _ := hS;refine aq0 ?_;refine wvz (v := .agg [vp, vg, va, vc, vf]) (oL 0 hS) ?_;refine wkz (declarations_ref_ok hS.ok hx hfi hv) ?_;rintro _ z ⟨hk, rfl⟩;have hS := hS.mov hk;refine ws_alloc hS rfl rfl rfl rfl ?_;rintro p2 z hS hk;have hS : SH _ [_, _, _] z _ := hS;have hK := hS.K
 first | refine ws_storeL 2 hS rfl rfl rfl rfl rfl rfl (by first | rfl | assumption | exact Row.leaf (by assumption)) (nl rfl) ?_ | refine ws_store 2 hS rfl rfl rfl rfl rfl rfl (by first | rfl | assumption | exact Row.leaf (by assumption)) (nl rfl) ?_
 rintro z hS;have hS : SH _ [_, _, _] z _ := hS;have hK := hS.K;refine aq0 ?_;have hS : SH s [ptC (.ptr p0 0 0) [vp, vg, va, vc, vf], ptC (.ptr p1 0 0) [.int .i64 0, .int .i64 0, .int .i64 0], ptC (.ptr p2 0 0) (fltC (firstF (declL x ++ (List.range 0).flatMap (funT x))))] z := by rw [List.range_zero, List.flatMap_nil, List.append_nil]; exact hS
 refine aq0 ?_;refine wvz (op_pure rfl) ?_;refine w_nil ?_;refine then_n ?_
 repeat refine wc_seq ?_
 refine wc_cut (fun m z => Sub [(1, .ptr p0 0 0), (2, .ptr p1 0 0), (3, .ptr p2 0 0)] m ∧ SH s [ptC (.ptr p0 0 0) [vp, vg, va, vc, vf], ptC (.ptr p1 0 0) [.int .i64 0, .int .i64 0, .int .i64 0], ptC (.ptr p2 0 0) (fltC (firstF (checkL x)))] z) ?_ ?_
 ·refine aq0 ?_;refine wc_loop_at (fun jj m z => ∃ i : Nat, jj = x.funcs.length - i ∧ i ≤ x.funcs.length ∧ m = [(1, .ptr p0 0 0), (2, .ptr p1 0 0), (3, .ptr p2 0 0), (4, .int .i64 (i : Nat))] ∧ SH s [ptC (.ptr p0 0 0) [vp, vg, va, vc, vf], ptC (.ptr p1 0 0) [.int .i64 0, .int .i64 0, .int .i64 0], ptC (.ptr p2 0 0) (fltC (firstF (declL x ++ (List.range i).flatMap (funT x))))] z) x.funcs.length
   [(1, .ptr p0 0 0), (2, .ptr p1 0 0), (3, .ptr p2 0 0), (4, .int .i64 ((0 : Nat) : Int))] (scn rfl (scn rfl (scn rfl (scn rfl (Sub.nil _))))) ⟨0, by simp, by simp, rfl, hS⟩ ?_
  clear hS hK;rintro jj m z ⟨i, rfl, hi, rfl, hS⟩;have hK := hS.K;refine aq2 ?_;refine wvz (v := vf) (oL 0 hS) ?_;refine wvz (oN hsf) ?_;refine aq2 ?_;refine w_split (i := 14) rfl (fun h14 => ?_) (fun h14 => ?_)
  ·simp only [dtt] at h14;refine aq1 ?_;refine wvz (v := .int .i64 (firstF (declL x ++ (List.range i).flatMap (funT x))).err) (oL 2 hS) ?_;refine aq2 ?_;refine wcb (fun h18 => ?_) (fun h18 => ?_)
   ·refine aq0 ?_;obtain ⟨y, hy⟩ : ∃ y, x.funcs[i]? = some y := ⟨_, gee (by omega)⟩;obtain ⟨cy, hcy⟩ : ∃ c, csf[i]? = some c := ⟨_, gee (by omega)⟩;obtain ⟨yp, yr, yv, yb, rfl, hyp, hyr, hyv, hyb⟩ := hF i y cy hy hcy;obtain ⟨hy1, hy2, hy3, hy4, hy5⟩ := id (hsm y (mog hy));obtain ⟨csb, hbr, hbl, hbE⟩ := id hyb;have hfu : funT x i = headT x i y ++ (List.range y.body.length).flatMap (stmtI x i y) := by unfold funT; rw [hy]
    have hOD := firstF_zero (good_D x i) h18;refine aq0 ?_;refine wvz (v := .agg [vp, vg, va, vc, vf]) (oL 0 hS) ?_;refine aq1 ?_;refine wkz (head_ref_ok hS.ok hx hfi hv hy) ?_;rintro _ z ⟨hk, rfl⟩;have hS := hS.mov hk;have hK := hS.K
    first | refine ws_storeL 2 hS rfl rfl rfl rfl rfl rfl (by first | rfl | assumption | exact Row.leaf (by assumption)) (nl rfl) ?_ | refine ws_store 2 hS rfl rfl rfl rfl rfl rfl (by first | rfl | assumption | exact Row.leaf (by assumption)) (nl rfl) ?_
    rintro z hS;have hS : SH _ [_, _, _] z _ := hS;have hK := hS.K;refine aq0 ?_;have hS : SH s [ptC (.ptr p0 0 0) [vp, vg, va, vc, vf], ptC (.ptr p1 0 0) [.int .i64 0, .int .i64 0, .int .i64 0], ptC (.ptr p2 0 0) (fltC (firstF (declL x ++ (List.range i).flatMap (funT x) ++ (headT x i y ++ (List.range 0).flatMap (stmtI x i y)))))] z := by rw [firstF_off hOD, List.range_zero, List.flatMap_nil, List.append_nil]; exact hS
    refine aq1 ?_;refine wc_loop_at (fun jj m z => ∃ j : Nat, jj = y.body.length - j ∧ j ≤ y.body.length ∧ m = [(1, .ptr p0 0 0), (2, .ptr p1 0 0), (3, .ptr p2 0 0), (4, .int .i64 (i : Nat)), (5, .int .i64 (j : Nat))] ∧ SH s [ptC (.ptr p0 0 0) [vp, vg, va, vc, vf], ptC (.ptr p1 0 0) [.int .i64 0, .int .i64 0, .int .i64 0], ptC (.ptr p2 0 0) (fltC (firstF (declL x ++ (List.range i).flatMap (funT x) ++ (headT x i y ++ (List.range j).flatMap (stmtI x i y)))))] z) y.body.length
     [(1, .ptr p0 0 0), (2, .ptr p1 0 0), (3, .ptr p2 0 0), (4, .int .i64 (i : Nat)), (5, .int .i64 ((0 : Nat) : Int))] (scn rfl (scn rfl (scn rfl (scn rfl (scn rfl (Sub.nil _)))))) ⟨0, by simp, by simp, rfl, hS⟩ ?_
    clear hS hK;rintro jj m z ⟨j, rfl, hj, rfl, hS⟩;have hK := hS.K;refine aq2 ?_;refine wvz (v := vf) (oL 0 hS) ?_;refine aq1 ?_;refine wvz (oI (RowP.up hrf _)) ?_;refine wvz (oF (Row.pt (RowP.up hrf z.h) hcy)) ?_;refine wvz (v := yb) (oM (Pt.fld (Row.pt (RowP.up hrf z.h) hcy) _ (nl rfl))) ?_;refine wvz (op_len rfl rfl rfl rfl rfl (by rw [hbr.slen, hbl])) ?_;refine aq2 ?_;refine w_split (i := 33) rfl (fun h33 => ?_) (fun h33 => ?_)
    ·simp only [dtt] at h33;refine aq1 ?_;refine wvz (v := .int .i64 (firstF (declL x ++ (List.range i).flatMap (funT x) ++ (headT x i y ++ (List.range j).flatMap (stmtI x i y)))).err) (oL 2 hS) ?_;refine aq2 ?_;refine wcb (fun h37 => ?_) (fun h37 => ?_)
     ·refine aq0 ?_;obtain ⟨st, hst⟩ : ∃ st, y.body[j]? = some st := ⟨_, gee (by omega)⟩;have hsi : stmtI x i y j = stmtT x i y j st := by unfold stmtI; rw [hst]
      have hOE := firstF_zero (good_E x i y j) h37;refine aq0 ?_;refine wvz (v := .agg [vp, vg, va, vc, vf]) (oL 0 hS) ?_;refine aq2 ?_;refine wkz (stmt_ref_ok hS.ok hx hv hy hst) ?_;rintro _ z ⟨hk, rfl⟩;have hS := hS.mov hk;have hK := hS.K;refine aq3 ?_;refine wc_condT rfl (fun h45 => ?_) (fun h45 => ?_)
      ·simp only [ne_eq, bne_iff_ne] at h45;refine aq3 ?_;refine wkz (at_ok hS.ok) ?_;rintro _ z ⟨hk, rfl⟩;have hS := hS.mov hk;have hK := hS.K
       first | refine ws_storeL 2 hS rfl rfl rfl rfl rfl rfl (by first | rfl | assumption | exact Row.leaf (by assumption)) (nl rfl) ?_ | refine ws_store 2 hS rfl rfl rfl rfl rfl rfl (by first | rfl | assumption | exact Row.leaf (by assumption)) (nl rfl) ?_
       rintro z hS;have hS : SH _ [_, _, _] z _ := hS;refine aq1 ?_;refine wad ?_;refine aq1 ?_;have hS : SH s [ptC (.ptr p0 0 0) [vp, vg, va, vc, vf], ptC (.ptr p1 0 0) [.int .i64 0, .int .i64 0, .int .i64 0], ptC (.ptr p2 0 0) (fltC (firstF (declL x ++ (List.range i).flatMap (funT x) ++ (headT x i y ++ (List.range (j + 1)).flatMap (stmtI x i y)))))] z := by
        rw [range_flat, hsi, ← aas, ← aas, aas (declL x ++ _), firstF_off hOE, AtF.first (at_stmt x i y j st) h45]; exact hS
       exact rn ⟨j + 1, rfl, by omega, rfl, hS⟩
      simp only [bne_eq_false_iff_eq] at h45;refine aq1 ?_;refine wad ?_;refine aq1 ?_;have hS : SH s [ptC (.ptr p0 0 0) [vp, vg, va, vc, vf], ptC (.ptr p1 0 0) [.int .i64 0, .int .i64 0, .int .i64 0], ptC (.ptr p2 0 0) (fltC (firstF (declL x ++ (List.range i).flatMap (funT x) ++ (headT x i y ++ (List.range (j + 1)).flatMap (stmtI x i y)))))] z := by
       rw [range_flat, hsi, ← aas, ← aas, aas (declL x ++ _), firstF_off hOE, firstF_eta (good_stmt' _ _ _ _ _) h45];rw [firstF_off' hOE] at hS; exact hS
      exact rn ⟨j + 1, rfl, by omega, rfl, hS⟩
     refine aq1 ?_;refine wad ?_;refine aq1 ?_;have hS : SH s [ptC (.ptr p0 0 0) [vp, vg, va, vc, vf], ptC (.ptr p1 0 0) [.int .i64 0, .int .i64 0, .int .i64 0], ptC (.ptr p2 0 0) (fltC (firstF (declL x ++ (List.range (i + 1)).flatMap (funT x))))] z := by
      rw [range_flat, ← aas, hfu]
      first
      | exact hS
      | (obtain ⟨r, hr⟩ := range_split (stmtI x i y) hj
         rw [hr, ← aas (headT x i y), ← aas, firstF_more (good_E x i y j) h37]; exact hS)
     exact rn ⟨i + 1, rfl, by omega, rfl, hS⟩
    simp only [dff] at h33;obtain rfl : j = y.body.length := by omega
    refine aq4 ?_;refine wc_cond_f rfl ?_;refine aq1 ?_;refine wad ?_;refine aq1 ?_;have hS : SH s [ptC (.ptr p0 0 0) [vp, vg, va, vc, vf], ptC (.ptr p1 0 0) [.int .i64 0, .int .i64 0, .int .i64 0], ptC (.ptr p2 0 0) (fltC (firstF (declL x ++ (List.range (i + 1)).flatMap (funT x))))] z := by
     rw [range_flat, ← aas, hfu]
     first
     | exact hS
     | (obtain ⟨r, hr⟩ := range_split (stmtI x i y) hj
        rw [hr, ← aas (headT x i y), ← aas, firstF_more (good_E x i y j) h37]; exact hS)
    exact rn ⟨i + 1, rfl, by omega, rfl, hS⟩
   refine aq0 ?_;refine cut_n ?_;refine ⟨(scn rfl (scn rfl (scn rfl (Sub.nil _)))), ?_⟩
   first
   | (rw [checkL, checkL_eq]; exact hS)
   | (obtain ⟨r, hr⟩ := range_split (funT x) hi
      rw [checkL, checkL_eq, hr, ← aas, firstF_more (good_D x i) h18]; exact hS)
  simp only [dff] at h14;obtain rfl : i = x.funcs.length := by omega
  refine aq4 ?_;refine wc_cond_f rfl ?_;refine aq0 ?_;refine cut_n ?_;refine ⟨(scn rfl (scn rfl (scn rfl (Sub.nil _)))), ?_⟩
  first
  | (rw [checkL, checkL_eq]; exact hS)
  | (obtain ⟨r, hr⟩ := range_split (funT x) hi
     rw [checkL, checkL_eq, hr, ← aas, firstF_more (good_D x i) h18]; exact hS)
 clear hS hK;rintro m z ⟨hm, hS⟩;refine wc_sub hm ?_;refine aq0 ?_;refine wvz (v := .agg (fltC (firstF (checkL x)))) (oL 2 hS) ?_;refine ws_store 1 hS rfl rfl rfl rfl rfl rfl rfl (nl rfl) ?_;rintro z hS;have hK := hS.K;refine aq0 ?_;exact ⟨_, res_cell rfl rfl (hS.pt 1 rfl) rfl, hK, rfl⟩
-- unused hook: sett50
end Go.Ab
namespace Go.Ab
open Go.Proofs
theorem flt_ne {x : Flt} {l : List (Bool × Flt)} (hl : GoodF l) (hx : x = firstF l) (h : ¬ (x.err = 0 ∧ x.f = 0 ∧ x.at_ = 0)) : x.err ≠ 0 := by
 intro e;subst hx;rw [firstF_eta hl e] at h;exact h ⟨rfl, rfl, rfl⟩
theorem good_flowT (s : SrcL) (k : Nat) (y : FunL) (i : Nat) : GoodF (flowT s k y i) := by
 unfold flowT;split
 ·intro p hp; rw [msi.1 hp]; simp
 ·exact GoodF.nil
theorem good_flowF (s : SrcL) (k : Nat) : GoodF (flowF s k) := by
 unfold flowF;split
 ·exact GoodF.flat fun i _ => good_flowT _ _ _ _
 ·exact GoodF.nil
theorem good_cD (s : SrcL) (i : Nat) : GoodF (checkL s ++ (List.range i).flatMap (flowF s)) := (good_chk s).app (GoodF.flat fun k _ => good_flowF s k)
theorem good_cE (s : SrcL) (i : Nat) (y : FunL) (j : Nat) : GoodF (checkL s ++ (List.range i).flatMap (flowF s) ++ (List.range j).flatMap (flowT s i y)) := (good_cD s i).app (GoodF.flat fun k _ => good_flowT s i y k)
theorem levs_at {s : SrcL} {k i : Nat} {y : FunL} (hy : s.funcs[k]? = some y) (h : (ends1 (kinds y)).isSome = true) (hi : i < y.body.length) : (levsN s (k : Nat))[i]? = some (levI s (k : Nat) y i) := by
 rw [levsN_in hy, levY_yes h, gmm, List.getElem?_range hi]; rfl
theorem levs_len {s : SrcL} {k : Nat} {y : FunL} (hy : s.funcs[k]? = some y) (h : (ends1 (kinds y)).isSome = true) : (levsN s (k : Nat)).length = y.body.length := by
 rw [levsN_in hy, levY_yes h, lmm, List.length_range]
theorem StmtR.leafs {x : StmtL} {c : List AV} (h : StmtR .leaf x c) : c.all AV.leaf = true := by
 obtain ⟨vt, ve, rfl, h1, css, h2, -⟩ := h;simp only [List.all_cons, List.all_nil, h1.leaf, h2.leaf]; rfl
theorem StmtR.len {x : StmtL} {c : List AV} (h : StmtR .leaf x c) : c.length = 4 := by
 obtain ⟨vt, ve, rfl, -⟩ := h
 rfl
theorem flow_check_ok {s : St} {c : List AV} {x : SrcL} (hok : s.Ok) (hx : x.small) (hfi : x.fine) (hv : SrcP x c) :
  CallS Try.prog Tt Kt 7 [.agg c] s fun r s' => Keep [] s s' ∧ r = .agg (fltC (firstF (chkL x))) := by
 have hz := hv.leaf;obtain ⟨vp, vg, va, vc, vf, rfl, hvp, hvg, hva, hvc, csf, hrf, hlf, hF⟩ := id hv;obtain ⟨hl1, hl2, hl3, hl4, hl5, hsm⟩ := id hx;have hsf : vf.slen = some x.funcs.length := by rw [hrf.slen, hlf]
 refine cof 50 Try.func7 ?_;refine aq0 ?_;have hS := SH.start hok;refine aq0 ?_;refine ws_box hS rfl rfl rfl hz ?_;rintro p0 z hS hk;have hS : SH _ [_] z _ := hS;refine ws_alloc hS rfl rfl rfl rfl ?_;rintro p2 z hS hk;have hS : SH _ [_, _] z _ := hS;refine aq0 ?_;refine wvz (v := .agg [vp, vg, va, vc, vf]) (oL 0 hS) ?_;refine wkz (check_ok hS.ok hx hfi hv) ?_;rintro _ z ⟨hk, rfl⟩;have hS := hS.mov hk;refine ws_alloc hS rfl rfl rfl rfl ?_;rintro p3 z hS hk;have hS : SH _ [_, _, _] z _ := hS;have hK := hS.K
 first | refine ws_storeL 2 hS rfl rfl rfl rfl rfl rfl (by first | rfl | assumption | exact Row.leaf (by assumption)) (nl rfl) ?_ | refine ws_store 2 hS rfl rfl rfl rfl rfl rfl (by first | rfl | assumption | exact Row.leaf (by assumption)) (nl rfl) ?_
 rintro z hS;have hS : SH _ [_, _, _] z _ := hS;refine aq0 ?_;have hS : SH s [ptC (.ptr p0 0 0) [vp, vg, va, vc, vf], ptC (.ptr p2 0 0) [.int .i64 0, .int .i64 0, .int .i64 0], ptC (.ptr p3 0 0) (fltC (firstF (checkL x)))] z := hS;have hK := hS.K;refine aq0 ?_;refine wvz (v := .agg (fltC (firstF (checkL x)))) (oL 2 hS) ?_;refine aq1 ?_;refine wvz (op_bin rfl rfl rfl) ?_;refine aq0 ?_;refine wc_condT rfl (fun h12 => ?_) (fun h12 => ?_)
 ·simp only [Bool.not_eq_true'] at h12;have he := flt_ne (good_chk x) rfl (fun h => by rw [h.1, h.2.1, h.2.2] at h12; simp at h12);refine aq0 ?_;refine wvz (v := .agg (fltC (firstF (checkL x)))) (oL 2 hS) ?_
  first | refine ws_storeL 1 hS rfl rfl rfl rfl rfl rfl (by first | rfl | assumption | exact Row.leaf (by assumption)) (nl rfl) ?_ | refine ws_store 1 hS rfl rfl rfl rfl rfl rfl (by first | rfl | assumption | exact Row.leaf (by assumption)) (nl rfl) ?_
  rintro z hS;have hS : SH _ [_, _, _] z _ := hS;have hK := hS.K;refine aq0 ?_;exact ⟨_, res_cell rfl rfl (hS.pt 1 rfl) rfl, hK, by rw [chk_err he]; rfl⟩
 simp only [beq_iff_eq, Bool.not_eq_false', Bool.and_eq_true] at h12;have hOff : Off (checkL x) := (firstF_zero (good_chk x) h12.1);refine aq1 ?_;refine wvz (v := vf) (oL 0 hS) ?_;refine wvz (oN hsf) ?_;refine aq1 ?_;refine wc_loop_at (fun jj m z => ∃ k : Nat, jj = x.funcs.length - k ∧ k ≤ x.funcs.length ∧ m = [(1, .ptr p0 0 0), (2, .ptr p2 0 0), (15, vf), (16, .int .i64 (x.funcs.length : Nat)), (17, .int .i64 (k : Nat))] ∧ SH s [ptC (.ptr p0 0 0) [vp, vg, va, vc, vf], ptC (.ptr p2 0 0) [.int .i64 0, .int .i64 0, .int .i64 0], ptC (.ptr p3 0 0) (fltC (firstF (checkL x)))] z ∧ Off ((List.range k).flatMap (flowF x))) x.funcs.length
  [(1, .ptr p0 0 0), (2, .ptr p2 0 0), (15, vf), (16, .int .i64 (x.funcs.length : Nat)), (17, .int .i64 ((0 : Nat) : Int))] (scn rfl (scn rfl (scn rfl (scn rfl (scn rfl (Sub.nil _)))))) ⟨0, by simp, by simp, rfl, hS, Off.nil⟩ ?_
 clear hS hK;rintro jj m z ⟨k, rfl, hkl, rfl, hS, hO⟩;have hK := hS.K;refine aq1 ?_;refine wcd (fun h18 => ?_) (fun h18 => ?_)
 ·obtain ⟨y, hy⟩ : ∃ y, x.funcs[k]? = some y := ⟨_, gee (by omega)⟩;obtain ⟨cy, hcy⟩ : ∃ c, csf[k]? = some c := ⟨_, gee (by omega)⟩;obtain ⟨yp, yr, yv, yb, rfl, hyp, hyr, hyv, hyb⟩ := hF k y cy hy hcy;obtain ⟨hy1, hy2, hy3, hy4, hy5⟩ := id (hsm y (mog hy));have hyf := hfi.2.2.2.2 y (mog hy);obtain ⟨csb, hbr, hbl, hbE⟩ := id hyb;have hsb : yb.slen = some y.body.length := by rw [hbr.slen, hbl]
  have hends := ord_ends hOff hy;refine aq2 ?_;refine wvz (v := .agg [vp, vg, va, vc, vf]) (oL 0 hS) ?_;refine aq1 ?_;refine wkz (levels_ok hS.ok hx hfi hv hy) ?_;rintro r5 z ⟨hk, hr5⟩;have hS := hS.mov hk;have hK := hS.K;have hll := levs_len hy hends;refine aq2 ?_;refine wvz (v := vf) (oL 0 hS) ?_;refine aq1 ?_;refine wvz (oI (RowP.up hrf _)) ?_;refine wvz (oF (Row.pt (RowP.up hrf _) hcy)) ?_;refine wvz (v := yb) (oM (Pt.fld (Row.pt (RowP.up hrf _) hcy) _ (nl rfl))) ?_;refine wvz (oN hsb) ?_;refine aq1 ?_;refine wc_loop_at (fun jj m z => ∃ i : Nat, jj = y.body.length - i ∧ i ≤ y.body.length ∧ m = [(1, .ptr p0 0 0), (2, .ptr p2 0 0), (4, .int .i64 (k : Nat)), (5, r5), (15, vf), (16, .int .i64 (x.funcs.length : Nat)), (17, .int .i64 (k : Nat)), (28, yb), (29, .int .i64 (y.body.length : Nat)), (30, .int .i64 (i : Nat))] ∧ SH s [ptC (.ptr p0 0 0) [vp, vg, va, vc, vf], ptC (.ptr p2 0 0) [.int .i64 0, .int .i64 0, .int .i64 0], ptC (.ptr p3 0 0) (fltC (firstF (checkL x)))] z ∧ Off ((List.range i).flatMap (flowT x k y))) y.body.length
   [(1, .ptr p0 0 0), (2, .ptr p2 0 0), (4, .int .i64 (k : Nat)), (5, r5), (15, vf), (16, .int .i64 (x.funcs.length : Nat)), (17, .int .i64 (k : Nat)), (28, yb), (29, .int .i64 (y.body.length : Nat)), (30, .int .i64 ((0 : Nat) : Int))] (scn rfl (scn rfl (scn rfl (scn rfl (scn rfl (scn rfl (scn rfl (scn rfl (scn rfl (scn rfl (Sub.nil _))))))))))) ⟨0, by simp, by simp, rfl, hS, Off.nil⟩ ?_
  clear hS hK;rintro jj m z ⟨i, rfl, hi, rfl, hS, hO2⟩;have hK := hS.K;refine aq1 ?_;refine wcd (fun h31 => ?_) (fun h31 => ?_)
  ·obtain ⟨st, hst⟩ : ∃ st, y.body[i]? = some st := ⟨_, gee (by omega)⟩;obtain ⟨cst, hcst⟩ : ∃ c, csb[i]? = some c := ⟨_, gee (by omega)⟩;have hsr := hbE i st cst hst hcst;obtain ⟨vt, ve, rfl, -⟩ := id hsr;have hsz := hsr.leafs;have hio := ord_stmt hOff hy hst;have hfl : flowT x k y i = [(!keptK x k y st (levI x (k : Nat) y i), ⟨80, k, i⟩)] := flowT_at hst;refine aq0 ?_;have hlv := levI_64 hfi (f := (k : Nat)) hyf.2.1 i;have hli := levs_at hy hends (i := i) (by omega);have hcl := hsr.len;refine aq1 ?_;refine wvz (oI (RowP.up hbr _)) ?_;refine wvz (v := .agg [.int .i64 st.kind, .str st.name, vt, ve]) (oM (Row.pt (RowP.up hbr _) hcst)) ?_;refine ws_alloc hS rfl rfl rfl rfl ?_;rintro p7 z hS hk;have hS : SH _ [_, _, _, _] z _ := hS;have hK := hS.K;refine aq1 ?_
   first | refine ws_storeL 3 hS rfl rfl rfl rfl rfl rfl (by first | rfl | assumption | exact Row.leaf (by assumption)) (nl rfl) ?_ | refine ws_store 3 hS rfl rfl rfl rfl rfl rfl (by first | rfl | assumption | exact Row.leaf (by assumption)) (nl rfl) ?_
   rintro z hS;have hS : SH _ [_, _, _, _] z _ := hS;have hK := hS.K;refine aq0 ?_;have hR := Keep.refl (s := z) (by first | exact hK.ok | exact hS.ok | assumption);refine wc_draw (Old z []) (by kernel_rfl) rfl ?_;refine wol hR (v := .agg [vp, vg, va, vc, vf]) ((hS.pt 0 rfl).at (o := 0) (Nat.zero_le _)) (fun _ _ h => by cases h) ?_;refine aq1 ?_;refine wol hR (v := .agg [.int .i64 st.kind, .str st.name, vt, ve]) ((hS.pt 3 rfl).at (o := 0) (Nat.zero_le _)) (fun _ _ h => by cases h) ?_;refine aq2 ?_;refine wov (oJ (RowP.up hr5 _)) ?_;refine wol hR (v := .int .u64 ((levI x (k : Nat) y i : Nat) : Int)) (Row.mk_pt (RowP.up hr5 _) hli) (no_gs (RowP.egs hr5 _)) ?_;refine woc hR (keeps_ok hR.ok hx hfi hv hy hsr (hy5 st (mog hst)) hio hlv) ?_;rintro _ sQ ⟨-, rfl⟩ hR;refine aq1 ?_;have hS := hS.mov hR;generalize St.mk sQ.ctr z.h (sQ.wr ++ z.wr) = z at hS ⊢;have hK := hS.K;refine aq0 ?_;refine wc_condT rfl (fun h43 => ?_) (fun h43 => ?_)
   ·simp only [Bool.not_eq_true'] at h43;refine aq3 ?_
    first | refine ws_storeL 1 hS rfl rfl rfl rfl rfl rfl (by first | rfl | assumption | exact Row.leaf (by assumption)) (nl rfl) ?_ | refine ws_store 1 hS rfl rfl rfl rfl rfl rfl (by first | rfl | assumption | exact Row.leaf (by assumption)) (nl rfl) ?_
    rintro z hS;have hS : SH _ [_, _, _, _] z _ := hS;have hK := hS.K;refine aq0 ?_;exact ⟨_, res_cell rfl rfl (hS.pt 1 rfl) rfl, hK, by rw [flow_hit hOff hy hst hO hO2 h43]; rfl⟩
   simp only [Bool.not_eq_false'] at h43;refine aq0 ?_;refine wad ?_;refine aq1 ?_;have hS : SH s [ptC (.ptr p0 0 0) [vp, vg, va, vc, vf], ptC (.ptr p2 0 0) [.int .i64 0, .int .i64 0, .int .i64 0], ptC (.ptr p3 0 0) (fltC (firstF (checkL x)))] z := hS.sub (.cons_cons _ (.cons_cons _ (.cons_cons _ (.cons _ (.refl _)))));exact rn ⟨i + 1, rfl, by omega, rfl, hS, flat_off hO2 (by rw [hfl, h43]; exact Off.cons rfl Off.nil)⟩
  obtain rfl : i = y.body.length := by omega
  refine aq0 ?_;refine wad ?_;refine aq1 ?_;exact rn ⟨k + 1, rfl, by omega, rfl, hS, flat_off hO (by rw [flowF_at hy]; exact hO2)⟩
 obtain rfl : k = x.funcs.length := by omega
 refine aq1 ?_
 first | refine ws_storeL 1 hS rfl rfl rfl rfl rfl rfl (by first | rfl | assumption | exact Row.leaf (by assumption)) (nl rfl) ?_ | refine ws_store 1 hS rfl rfl rfl rfl rfl rfl (by first | rfl | assumption | exact Row.leaf (by assumption)) (nl rfl) ?_
 rintro z hS;have hS : SH _ [_, _, _] z _ := hS;have hK := hS.K;refine aq0 ?_;exact ⟨_, res_cell rfl rfl (hS.pt 1 rfl) rfl, hK, by rw [flow_off hOff hO]; rfl⟩
end Go.Ab
