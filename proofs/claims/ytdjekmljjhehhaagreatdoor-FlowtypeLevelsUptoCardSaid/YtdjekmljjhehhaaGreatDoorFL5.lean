/- 'Rows.FlowtypeLevelsUptoCardSaid': whatever source and number come in (of bulk at most 1048576), the law returns true and they read as they did. -/
import Derived.Test.YtdjekmljjhehhaaGreatDoorFL4
import Derived.ChangeArms
import Derived.WideShapes
import Derived.Shelf.Strings.Search3
import Derived.Shelf.LaysM
import Derived.Shelf.Strings.Shaped
import Derived.Test.YtdjekmljjhehhaaGreatDoorRows
import Derived.WalkKit
import Derived.ProofKit
import Derived.OpenShut
import Derived.JoinedCond
import Derived.Below
import Derived.Carry
import Derived.Test.YtdjekmljjhehhaaGreatDoorCards
import Derived.Test.YtdjekmljjhehhaaGreatDoorTie
import Derived.Deep.DeepHandedRow
import Derived.Deep.DeepWitnessRowRef
import Derived.Lib.LaidIn
namespace Go.Ab
open Go.Proofs
theorem all_succ (p : Nat → Bool) (i : Nat) : (List.range (i + 1)).all p = ((List.range i).all p && p i) := by
 rw [List.range_succ, List.all_append]; simp
theorem uC_lC (l : List Nat) : l.map uC = (l.map fun n => ((n : Nat) : Int)).map lC := by rw [List.map_map]; rfl
theorem getD_at' {l : List Nat} {i : Nat} (h : i < l.length) : l[i]? = some (l.getD i 0) := by
 rw [gdd, gee h]; rfl
theorem lsN_len (s : SrcL) (f : Int) (x : StmtL) : (lsN s f x).length = x.exprs.length := by rw [lsN, lmm]
theorem lsN_snoc {s : SrcL} {f : Int} {x : StmtL} {i : Nat} {e : List TermL} (h : x.exprs[i]? = some e) : (lsN s f x).take (i + 1) = (lsN s f x).take i ++ [exN s f e] := by
 rw [← take_snoc (x := exN s f e)]
 rw [lsN, gmm, h]; rfl
theorem ls_two {l : List Nat} (h : l.length = 2) : l = [l.getD 0 0, l.getD 1 0] := by
 match l, h with
 | [a, b], _ => rfl
theorem wN_two (a b lv t : Nat) : wN (a ||| b ||| lv) t = (wN (a ||| lv) t && wN (b ||| lv) t) := by
 rw [wN_or, wN_or, wN_or, wN_or]
 cases wN a t <;> cases wN b t <;> cases wN lv t <;> rfl
theorem declL_at {l : List DeclL} {i : Nat} {d : DeclL} (h : l[i]? = some d) : (l.map DeclL.label).getD i 0 = d.label := by
 rw [gdd, gmm, h]; rfl
theorem res_at {l : List Int} {i : Nat} {d : Int} (h : l[i]? = some d) : l.getD i 0 = d := by
 rw [gdd, h]; rfl
theorem tgt_at {l : List ByteArray} {i : Nat} {d : ByteArray} (h : l[i]? = some d) : l.getD i ByteArray.empty = d := by
 rw [gdd, h]; rfl
theorem u64_lt {a : Int} (h : U64 a) : a.toNat < 2 ^ 64 := by have := h.1; have := h.2; omega
set_option maxRecDepth 10000 in
set_option maxHeartbeats 8000000 in
theorem keeps_ok {s : St} {c sc : List AV} {x : SrcL} {k : Nat} {y : FunL} {st : StmtL} {lv : Nat} (hok : s.Ok) (hx : x.small) (hfi : x.fine) (hv : SrcP x c) (hy : x.funcs[k]? = some y) (hsr : StmtR .leaf st sc) (hss : st.small) (hio : InO x k y st) (hlv : lv < 2 ^ 64) :
  CallS Tryz.prog Tt Kt 37 [.agg c, .int .i64 (k : Nat), .agg sc, .int .u64 (lv : Nat)] s fun r s' => Keep [] s s' ∧ r = .bool (keptK x k y st lv) := by
 have hz := hv.leaf
 obtain ⟨vp, vg, va, vc, vf, rfl, hvp, hvg, hva, hvc, csf, hrf, hlf, hF⟩ := id hv
 obtain ⟨hl1, hl2, hl3, hl4, hl5, hsm⟩ := id hx
 have hsf : vf.slen = some x.funcs.length := by rw [hrf.slen, hlf]
 have hkl := (ges.1 hy).1
 obtain ⟨cy, hcy⟩ : ∃ c, csf[k]? = some c := ⟨_, gee (by omega)⟩
 obtain ⟨yp, yr, yv, yb, rfl, hyp, hyr, hyv, hyb⟩ := hF k y cy hy hcy
 obtain ⟨hy1, hy2, hy3, hy4, hy5⟩ := id (hsm y (mog hy))
 have hyf := hfi.2.2.2.2 y (mog hy)
 have hsp : yp.slen = some y.params.length := by rw [hyp.slen, lmm]
 obtain ⟨csb, hbr, hbl, hbE⟩ := id hyb
 obtain ⟨vt, ve, rfl, hvt, hve⟩ := id hsr
 obtain ⟨cse, hre, hle, hTE⟩ := id hve
 have hse : ve.slen = some st.exprs.length := by rw [hre.slen, hle]
 have hst1 : vt.slen = some st.targets.length := by rw [hvt.slen, lmm]
 have hzs : ([.int .i64 st.kind, .str st.name, vt, ve] : List AV).all AV.leaf = true := by
  simp only [List.all_cons, List.all_nil, hvt.leaf, hre.leaf]; rfl
 have hss2 := hss.2.1
 have hss1 := hss.1
 have hln := lsN_len x (k : Nat) st
 refine call_of (fn := Tryz.f37) (nt := 162) Tryz.func37 rfl rfl rfl ?_
 refine aq0 ?_
 have hS := SH.start hok
 refine aq0 ?_
 refine ws_box hS rfl rfl rfl hz ?_
 rintro p0 z hS hk
 have hS : SH _ [_] z _ := hS
 refine ws_box hS rfl rfl rfl (by rfl) ?_
 rintro p1 z hS hk
 have hS : SH _ [_, _] z _ := hS
 refine ws_box hS rfl rfl rfl hzs ?_
 rintro p2 z hS hk
 have hS : SH _ [_, _, _] z _ := hS
 refine ws_box hS rfl rfl rfl (by rfl) ?_
 rintro p3 z hS hk
 have hS : SH _ [_, _, _, _] z _ := hS
 refine aq1 ?_
 refine ws_alloc hS rfl rfl rfl rfl ?_
 rintro p9 z hS hk
 have hS : SH _ [_, _, _, _, _] z _ := hS
 refine ws_storeL 4 hS rfl rfl rfl rfl rfl rfl (by rfl) (nl rfl) ?_
 rintro z hS
 have hS : SH _ [_, _, _, _, _] z _ := hS
 refine aq5 ?_
 have hS := hS.nil 1
 have hS : SH s [ptC (.ptr p0 0 0) [vp, vg, va, vc, vf], ptC (.ptr p1 0 0) [.int .i64 (k : Nat)], ptC (.ptr p2 0 0) [.int .i64 st.kind, .str st.name, vt, ve], ptC (.ptr p3 0 0) [.int .u64 (lv : Nat)], ptC (.ptr p9 0 0) [.bool (true)], rowC .nils 1 (((lsN x (k : Nat) st).take 0).map uC)] z := hS
 have hK := hS.K
 refine aq1 ?_
 refine wvz (v := ve) (oL 2 hS) ?_
 refine wvz (oN hse) ?_
 refine aq1 ?_
 refine wc_loop_at (fun jj m z => ∃ (i : Nat) (v : AV), jj = st.exprs.length - i ∧ i ≤ st.exprs.length ∧ m = [(4, .ptr p0 0 0), (5, .ptr p1 0 0), (6, .ptr p2 0 0), (9, .ptr p9 0 0), (10, .fn 74 [.ptr p9 0 0, .ptr p3 0 0]), (11, .fn 76 [.ptr p0 0 0, .ptr p1 0 0]), (12, v), (29, ve), (30, .int .i64 (st.exprs.length : Nat)), (31, .int .i64 (i : Nat))] ∧ SH s [ptC (.ptr p0 0 0) [vp, vg, va, vc, vf], ptC (.ptr p1 0 0) [.int .i64 (k : Nat)], ptC (.ptr p2 0 0) [.int .i64 st.kind, .str st.name, vt, ve], ptC (.ptr p3 0 0) [.int .u64 (lv : Nat)], ptC (.ptr p9 0 0) [.bool (true)], rowC v 1 (((lsN x (k : Nat) st).take i).map uC)] z) st.exprs.length
  [(4, .ptr p0 0 0), (5, .ptr p1 0 0), (6, .ptr p2 0 0), (9, .ptr p9 0 0), (10, .fn 74 [.ptr p9 0 0, .ptr p3 0 0]), (11, .fn 76 [.ptr p0 0 0, .ptr p1 0 0]), (12, .nils), (29, ve), (30, .int .i64 (st.exprs.length : Nat)), (31, .int .i64 ((0 : Nat) : Int))] (scn rfl (scn rfl (scn rfl (scn rfl (scn rfl (scn rfl (scn rfl (scn rfl (scn rfl (scn rfl (Sub.nil _))))))))))) ⟨0, .nils, by simp, by simp, rfl, hS⟩ ?_
 clear hS hK
 rintro jj m z ⟨i, v, rfl, hi, rfl, hS⟩
 refine aq1 ?_
 refine wcd (fun h32 => ?_) (fun h32 => ?_)
 ·refine aq0 ?_
  obtain ⟨ts, hts⟩ : ∃ d, st.exprs[i]? = some d := ⟨_, gee (by omega)⟩
  obtain ⟨ct, hct⟩ : ∃ c, cse[i]? = some c := ⟨_, gee (by omega)⟩
  obtain ⟨tv, rfl, htv⟩ := hTE i ts ct hts hct
  refine aq0 ?_
  refine wvz (oI (RowP.up hre _)) ?_
  refine wvz (v := tv) (oM (Row.pt (RowP.up hre _) hct)) ?_
  refine aq1 ?_
  refine wvz (v := .agg [vp, vg, va, vc, vf]) (oL 0 hS) ?_
  refine wvz (v := .int .i64 (k : Nat)) (oL 1 hS) ?_
  refine aq1 ?_
  refine wkz (expr_ok hS.ok hx hfi hv hy (hss.2.2 ts (mog hts)) htv) ?_
  rintro _ z ⟨hk, rfl⟩
  have hS := hS.mov hk
  refine aq7 ?_
  refine ws_lit1 hS rfl rfl rfl rfl rfl rfl rfl rfl (by decide) (by decide) rfl (by rfl) rfl ?_
  rintro lt44 z hS hk hlt44
  refine ws_append 5 hS rfl rfl rfl rfl rfl rfl rfl rfl rfl rfl rfl (by decide) (hlt44) (by (simp only [lmm, lnn, lcc, List.length_take, maxBytes]; omega)) (by (simp only [lmm, lnn, lcc, List.length_take, maxBytes]; omega)) ?_
  rintro at45 z hS
  have hS : SH _ [_, _, _, _, _, _] z _ := hS
  refine aq1 ?_
  refine wad ?_
  refine aq1 ?_
  have hS : SH s [ptC (.ptr p0 0 0) [vp, vg, va, vc, vf], ptC (.ptr p1 0 0) [.int .i64 (k : Nat)], ptC (.ptr p2 0 0) [.int .i64 st.kind, .str st.name, vt, ve], ptC (.ptr p3 0 0) [.int .u64 (lv : Nat)], ptC (.ptr p9 0 0) [.bool (true)], rowC at45 1 (((lsN x (k : Nat) st).take (i + 1)).map uC)] z := by rw [lsN_snoc hts, ← uC_map]; exact hS
  exact rn ⟨i + 1, at45, rfl, by omega, rfl, hS⟩
 obtain rfl : i = st.exprs.length := by omega
 refine wc_exit ?_
 repeat first | refine then_x ?_ | refine round_x ?_ | refine cut_x ?_ | refine out_x' (by decide) ?_
 refine out_x ?_
 refine then_n ?_
 repeat refine wc_seq ?_
 refine wcs_told 5 12 hS rfl rfl (fun r12 hr12 hS => ?_)
 generalize z.drop v.gs = z at hS ⊢
 rw [List.take_of_length_le (by rw [lsN_len]; omega)] at hr12
 have hS : SH s [ptC (.ptr p0 0 0) [vp, vg, va, vc, vf], ptC (.ptr p1 0 0) [.int .i64 (k : Nat)], ptC (.ptr p2 0 0) [.int .i64 st.kind, .str st.name, vt, ve], ptC (.ptr p3 0 0) [.int .u64 (lv : Nat)], ptC (.ptr p9 0 0) [.bool (true)], emC] z := hS
 have hK := hS.K
 have hr12l : r12.slen = some st.exprs.length := by rw [hr12.slen, lmm, lsN_len]
 have hfit := hio.fit
 unfold fitK at hfit
 have h6 : p2 ≠ p9 := hS.ne (i := 2) (j := 4) (by decide) rfl rfl (msi.2 rfl) (msi.2 rfl)
 have h4 : p0 ≠ p9 := hS.ne (i := 0) (j := 4) (by decide) rfl rfl (msi.2 rfl) (msi.2 rfl)
 refine aq1 ?_
 refine wvz (v := .int .i64 st.kind) (oL 2 hS) ?_
 refine w_nil ?_
 refine then_n ?_
 repeat refine wc_seq ?_
 refine wc_cut (fun m z => Sub [(9, .ptr p9 0 0)] m ∧ SH s [ptC (.ptr p0 0 0) [vp, vg, va, vc, vf], ptC (.ptr p1 0 0) [.int .i64 (k : Nat)], ptC (.ptr p2 0 0) [.int .i64 st.kind, .str st.name, vt, ve], ptC (.ptr p3 0 0) [.int .u64 (lv : Nat)], ptC (.ptr p9 0 0) [.bool (keptK x k y st lv)]] z) ?_ ?_
 ·refine aq2 ?_
  refine wcb (fun h49 => ?_) (fun h49 => ?_)
  ·obtain ⟨tn, htn⟩ : ∃ d, st.targets[0]? = some d := ⟨_, gee (by omega)⟩
   have hR := Keep.refl (s := z) (hK.ok)
   refine wc_draw (Old z [p9]) (by kernel_rfl) rfl ?_
   refine aq2 ?_
   refine wov (op_idxF rfl rfl rfl rfl rfl rfl rfl (RowP.up hr12 _) (by omega)) ?_
   refine wo_load hR (v := .int .u64 ((lsN x (k : Nat) st).getD 0 0 : Nat)) rfl rfl (Row.mk_pt (RowP.up hr12 _) (getD_at' (by omega))) rfl (no_gs (RowP.egs hr12 _)) rfl rfl ?_
   refine aq2 ?_
   refine wo_load hR (v := vt) rfl rfl ((hS.pt 2 rfl).at (nl rfl)) rfl ((by simp [AV.gs, h6])) rfl rfl ?_
   refine wov (op_idxF rfl rfl rfl rfl rfl rfl rfl (RowP.up hvt _) (by omega)) ?_
   refine wol hR (v := .str tn) (Row.mk_pt (RowP.up hvt _) htn) (no_gs (RowP.egs hvt _)) ?_
   refine woc hR (lab_ok hR.ok hx hfi hv hy (Pt.bare ((hS.pt 0 rfl).keep0 hR)) (Pt.bare ((hS.pt 1 rfl).keep0 hR))) ?_
   rintro _ sA ⟨-, rfl⟩ hR
   refine wo_callX hR (fun _ h => h) rfl rfl (fun _ => rfl) (op_call rfl rfl rfl rfl) (want_ok (l := (lsN x (k : Nat) st).getD 0 0) (w := nmL x (k : Nat) tn) hR.ok (Pt.bare ((hS.pt 4 rfl).keep0 hR)) (Pt.bare ((hS.pt 3 rfl).keep0 hR)) (lsN_64 hfi _ _ _) hlv (labN_64 hfi _ _)) (fun _ _ h => h.1) ?_
   rintro _ sB ⟨-, hpX, rfl⟩ hkX
   refine aq0 ?_
   have hS := (hS.mov hR).upd 4 rfl hkX (fun g hg => hg) (ptC (.ptr p9 0 0) [.bool _]) hpX (fun g hg => .inl hg)
   have hS : SH s [ptC (.ptr p0 0 0) [vp, vg, va, vc, vf], ptC (.ptr p1 0 0) [.int .i64 (k : Nat)], ptC (.ptr p2 0 0) [.int .i64 st.kind, .str st.name, vt, ve], ptC (.ptr p3 0 0) [.int .u64 (lv : Nat)], ptC (.ptr p9 0 0) [.bool (true && wN ((lsN x (k : Nat) st).getD 0 0 ||| lv) (nmL x (k : Nat) tn))], _] _ := hS
   refine aq0 ?_
   refine cut_n ?_
   exact ⟨(scn rfl (Sub.nil _)), by rw [keptK, if_pos h49, tgt_at htn]; exact hS.sub (.cons_cons _ (.cons_cons _ (.cons_cons _ (.cons_cons _ (.cons_cons _ (.cons _ (.refl _)))))))⟩
  refine aq2 ?_
  refine wcb (fun h62 => ?_) (fun h62 => ?_)
  ·have hlt := ls_two (l := lsN x (k : Nat) st) (by omega)
   have hjn : joinL ((lsN x (k : Nat) st).map fun n => ((n : Nat) : Int)) = ((((lsN x (k : Nat) st).getD 0 0 ||| (lsN x (k : Nat) st).getD 1 0 : Nat)) : Int) := by
    conv => lhs; rw [hlt]
    exact join_two (lsN_64 hfi _ _ _) (lsN_64 hfi _ _ _)
   have hjcall : ∀ {s' : St}, s'.Ok → CallS Tryz.prog Tt Kt 39 [r12] s' fun r z' => Keep [] s' z' ∧ r = .int .u64 (((lsN x (k : Nat) st).getD 0 0 ||| (lsN x (k : Nat) st).getD 1 0 : Nat) : Int) := fun ho => (join_ok (ls := (lsN x (k : Nat) st).map fun n => ((n : Nat) : Int)) ho (by rw [lmm]; omega) (by rw [← uC_lC]; exact hr12)).mono fun r z' h => ⟨h.1, by rw [h.2, hjn]⟩
   have hR := Keep.refl (s := z) (hK.ok)
   refine wc_draw (Old z [p9]) (by kernel_rfl) rfl ?_
   refine aq2 ?_
   refine woc hR (hjcall hR.ok) ?_
   rintro _ sA ⟨-, rfl⟩ hR
   refine aq2 ?_
   refine wo_load hR (v := .str st.name) rfl rfl ((hS.pt 2 rfl).at (nl rfl)) rfl ((by simp [AV.gs, h6])) rfl rfl ?_
   refine woc hR (lab_ok hR.ok hx hfi hv hy (Pt.bare ((hS.pt 0 rfl).keep0 hR)) (Pt.bare ((hS.pt 1 rfl).keep0 hR))) ?_
   rintro _ sB ⟨-, rfl⟩ hR
   refine wo_callX hR (fun _ h => h) rfl rfl (fun _ => rfl) (op_call rfl rfl rfl rfl) (want_ok (l := (lsN x (k : Nat) st).getD 0 0 ||| (lsN x (k : Nat) st).getD 1 0) (w := nmL x (k : Nat) st.name) hR.ok (Pt.bare ((hS.pt 4 rfl).keep0 hR)) (Pt.bare ((hS.pt 3 rfl).keep0 hR)) (or64 (lsN_64 hfi _ _ _) (lsN_64 hfi _ _ _)) hlv (labN_64 hfi _ _)) (fun _ _ h => h.1) ?_
   rintro _ sC ⟨-, hpX, rfl⟩ hkX
   refine aq0 ?_
   have hS := (hS.mov hR).upd 4 rfl hkX (fun g hg => hg) (ptC (.ptr p9 0 0) [.bool _]) hpX (fun g hg => .inl hg)
   have hS : SH s [ptC (.ptr p0 0 0) [vp, vg, va, vc, vf], ptC (.ptr p1 0 0) [.int .i64 (k : Nat)], ptC (.ptr p2 0 0) [.int .i64 st.kind, .str st.name, vt, ve], ptC (.ptr p3 0 0) [.int .u64 (lv : Nat)], ptC (.ptr p9 0 0) [.bool (true && wN ((lsN x (k : Nat) st).getD 0 0 ||| (lsN x (k : Nat) st).getD 1 0 ||| lv) (nmL x (k : Nat) st.name))], _] _ := hS
   refine aq0 ?_
   refine cut_n ?_
   exact ⟨(scn rfl (Sub.nil _)), by rw [keptK, if_neg h49, if_pos h62, ← wN_two]; exact hS.sub (.cons_cons _ (.cons_cons _ (.cons_cons _ (.cons_cons _ (.cons_cons _ (.cons _ (.refl _)))))))⟩
  refine aq2 ?_
  refine wcb (fun h72 => ?_) (fun h72 => ?_)
  ·have hR := Keep.refl (s := z) (hK.ok)
   refine wc_draw (Old z [p9]) (by kernel_rfl) rfl ?_
   refine aq2 ?_
   refine wov (op_idxF rfl rfl rfl rfl rfl rfl rfl (RowP.up hr12 _) (by omega)) ?_
   refine wo_load hR (v := .int .u64 ((lsN x (k : Nat) st).getD 0 0 : Nat)) rfl rfl (Row.mk_pt (RowP.up hr12 _) (getD_at' (by omega))) rfl (no_gs (RowP.egs hr12 _)) rfl rfl ?_
   refine aq2 ?_
   refine wo_load hR (v := .str st.name) rfl rfl ((hS.pt 2 rfl).at (nl rfl)) rfl ((by simp [AV.gs, h6])) rfl rfl ?_
   refine woc hR (lab_ok hR.ok hx hfi hv hy (Pt.bare ((hS.pt 0 rfl).keep0 hR)) (Pt.bare ((hS.pt 1 rfl).keep0 hR))) ?_
   rintro _ sA ⟨-, rfl⟩ hR
   refine wo_callX hR (fun _ h => h) rfl rfl (fun _ => rfl) (op_call rfl rfl rfl rfl) (want_ok (l := (lsN x (k : Nat) st).getD 0 0) (w := nmL x (k : Nat) st.name) hR.ok (Pt.bare ((hS.pt 4 rfl).keep0 hR)) (Pt.bare ((hS.pt 3 rfl).keep0 hR)) (lsN_64 hfi _ _ _) hlv (labN_64 hfi _ _)) (fun _ _ h => h.1) ?_
   rintro _ sB ⟨-, hpX, rfl⟩ hkX
   refine aq0 ?_
   have hS := (hS.mov hR).upd 4 rfl hkX (fun g hg => hg) (ptC (.ptr p9 0 0) [.bool _]) hpX (fun g hg => .inl hg)
   have hS : SH s [ptC (.ptr p0 0 0) [vp, vg, va, vc, vf], ptC (.ptr p1 0 0) [.int .i64 (k : Nat)], ptC (.ptr p2 0 0) [.int .i64 st.kind, .str st.name, vt, ve], ptC (.ptr p3 0 0) [.int .u64 (lv : Nat)], ptC (.ptr p9 0 0) [.bool (true && wN ((lsN x (k : Nat) st).getD 0 0 ||| lv) (nmL x (k : Nat) st.name))], _] _ := hS
   refine aq0 ?_
   refine cut_n ?_
   exact ⟨(scn rfl (Sub.nil _)), by rw [keptK, if_neg h49, if_neg h62, if_pos h72]; exact hS.sub (.cons_cons _ (.cons_cons _ (.cons_cons _ (.cons_cons _ (.cons_cons _ (.cons _ (.refl _)))))))⟩
  refine aq2 ?_
  refine wcb (fun h83 => ?_) (fun h83 => ?_)
  ·refine aq0 ?_
   obtain ⟨q, gg, hq5, hqq, hgg, hl1', hl2'⟩ := hio.call h83
   have hp : fN x (k : Nat) st.name = (5, (q : Int)) := Prod.ext hq5 hqq
   have hcall : ∀ {s' : St}, s'.Ok → CallS Tryz.prog Tt Kt 15 [.agg [vp, vg, va, vc, vf], .int .i64 (k : Nat), .str st.name] s' fun r z' => Keep [] s' z' ∧ r = .tup [.agg [.int .i64 5, .int .i64 (q : Nat)], .bool true] := fun ho => (find_ok ho hx hv).mono fun r z' h => ⟨h.1, by rw [h.2, hp]; rfl⟩
   have hql := (ges.1 hgg).1
   obtain ⟨cg, hcg⟩ : ∃ c, csf[q]? = some c := ⟨_, gee (by omega)⟩
   obtain ⟨gp, gr, gv, gb, rfl, hgp, hgr, hgv, hgb⟩ := hF q gg cg hgg hcg
   obtain ⟨csg, hgbr, -, -⟩ := id hgb
   have hggf := hfi.2.2.2.2 gg (mog hgg)
   have hzg : ([.str gg.name, .int .u64 gg.level, gp, gr, gv, gb] : List AV).all AV.leaf = true := by
    simp only [List.all_cons, List.all_nil, hgp.leaf, hgr.leaf, hgv.leaf, hgbr.leaf]; rfl
   refine aq0 ?_
   refine wvz (v := .agg [vp, vg, va, vc, vf]) (oL 0 hS) ?_
   refine wvz (v := .int .i64 (k : Nat)) (oL 1 hS) ?_
   refine aq1 ?_
   refine wvz (v := .str st.name) (oL 2 hS) ?_
   refine wkz (hcall hS.ok) ?_
   rintro _ z ⟨hk, rfl⟩
   have hS := hS.mov hk
   refine aq3 ?_
   refine ws_alloc hS rfl rfl rfl rfl ?_
   rintro p17 z hS hk
   have hS : SH _ [_, _, _, _, _, _, _] z _ := hS
   refine ws_store 6 hS rfl rfl rfl rfl rfl rfl (by rfl) (nl rfl) ?_
   rintro z hS
   have hS : SH _ [_, _, _, _, _, _, _] z _ := hS
   refine aq1 ?_
   have hS : SH s [ptC (.ptr p0 0 0) [vp, vg, va, vc, vf], ptC (.ptr p1 0 0) [.int .i64 (k : Nat)], ptC (.ptr p2 0 0) [.int .i64 st.kind, .str st.name, vt, ve], ptC (.ptr p3 0 0) [.int .u64 (lv : Nat)], ptC (.ptr p9 0 0) [.bool (true)], emC, ptC (.ptr p17 0 0) [.int .i64 5, .int .i64 (q : Nat)]] z := hS
   refine aq1 ?_
   refine wvz (v := vf) (oL 0 hS) ?_
   refine aq1 ?_
   refine wvz (v := .int .i64 (q : Nat)) (oL 6 hS) ?_
   refine wvz (oI (RowP.up hrf _)) ?_
   refine wvz (v := .agg [.str gg.name, .int .u64 gg.level, gp, gr, gv, gb]) (oM (Row.pt (RowP.up hrf _) hcg)) ?_
   refine ws_alloc hS rfl rfl rfl rfl ?_
   rintro p19 z hS hk
   have hS : SH _ [_, _, _, _, _, _, _, _] z _ := hS
   have hK := hS.K
   refine ws_store 7 hS rfl rfl rfl rfl rfl rfl (by assumption) (nl rfl) ?_
   rintro z hS
   have hS : SH _ [_, _, _, _, _, _, _, _] z _ := hS
   refine aq0 ?_
   have hS : SH s [ptC (.ptr p0 0 0) [vp, vg, va, vc, vf], ptC (.ptr p1 0 0) [.int .i64 (k : Nat)], ptC (.ptr p2 0 0) [.int .i64 st.kind, .str st.name, vt, ve], ptC (.ptr p3 0 0) [.int .u64 (lv : Nat)], ptC (.ptr p9 0 0) [.bool ((List.range 0).all (fun i => wN ((lsN x (k : Nat) st).getD i 0 ||| lv) ((gg.params.map DeclL.label).getD i 0).toNat))], emC, ptC (.ptr p17 0 0) [.int .i64 5, .int .i64 (q : Nat)], ptC (.ptr p19 0 0) [.str gg.name, .int .u64 gg.level, gp, gr, gv, gb]] z := hS
   have hK := hS.K
   refine aq1 ?_
   refine wvz (oN hr12l) ?_
   refine aq1 ?_
   refine wc_loop_at (fun jj m z => ∃ i : Nat, jj = st.exprs.length - i ∧ i ≤ st.exprs.length ∧ m = [(4, .ptr p0 0 0), (5, .ptr p1 0 0), (6, .ptr p2 0 0), (9, .ptr p9 0 0), (10, .fn 74 [.ptr p9 0 0, .ptr p3 0 0]), (11, .fn 76 [.ptr p0 0 0, .ptr p1 0 0]), (19, .ptr p19 0 0), (99, r12), (100, .int .i64 (st.exprs.length : Nat)), (101, .int .i64 (i : Nat))] ∧ SH s [ptC (.ptr p0 0 0) [vp, vg, va, vc, vf], ptC (.ptr p1 0 0) [.int .i64 (k : Nat)], ptC (.ptr p2 0 0) [.int .i64 st.kind, .str st.name, vt, ve], ptC (.ptr p3 0 0) [.int .u64 (lv : Nat)], ptC (.ptr p9 0 0) [.bool ((List.range i).all (fun i => wN ((lsN x (k : Nat) st).getD i 0 ||| lv) ((gg.params.map DeclL.label).getD i 0).toNat))], emC, ptC (.ptr p17 0 0) [.int .i64 5, .int .i64 (q : Nat)], ptC (.ptr p19 0 0) [.str gg.name, .int .u64 gg.level, gp, gr, gv, gb]] z) st.exprs.length
    [(4, .ptr p0 0 0), (5, .ptr p1 0 0), (6, .ptr p2 0 0), (9, .ptr p9 0 0), (10, .fn 74 [.ptr p9 0 0, .ptr p3 0 0]), (11, .fn 76 [.ptr p0 0 0, .ptr p1 0 0]), (19, .ptr p19 0 0), (99, r12), (100, .int .i64 (st.exprs.length : Nat)), (101, .int .i64 ((0 : Nat) : Int))] (scn rfl (scn rfl (scn rfl (scn rfl (scn rfl (scn rfl (scn rfl (scn rfl (scn rfl (scn rfl (Sub.nil _))))))))))) ⟨0, by simp, by simp, rfl, hS⟩ ?_
   clear hS hK
   rintro jj m z ⟨i, rfl, hi, rfl, hS⟩
   refine aq1 ?_
   refine wcd (fun h102 => ?_) (fun h102 => ?_)
   ·refine aq0 ?_
    obtain ⟨d, hd⟩ : ∃ d, gg.params[i]? = some d := ⟨_, gee (by omega)⟩
    have hdl := (ges.1 hd).1
    have hdf := (hggf.2.2.1 d (mog hd)).2
    have hdc : ((((gg.params.map DeclL.label).getD i 0).toNat : Nat) : Int) = d.label := by rw [declL_at hd, u64_cast hdf]
    refine aq1 ?_
    refine wvz (oJ (RowP.up hr12 _)) ?_
    refine wvz (v := .int .u64 ((lsN x (k : Nat) st).getD i 0 : Nat)) (op_load rfl rfl (Row.mk_pt (RowP.up hr12 _) (getD_at' (by omega))) rfl) ?_
    refine aq5 ?_
    refine wvz (v := gp) (oL 7 hS) ?_
    refine aq1 ?_
    refine wvz (oJ (RowP.up hgp _)) ?_
    refine wvz (oF (Row.mk_pt (RowP.up hgp _) hd)) ?_
    refine wvz (v := .int .u64 ((((gg.params.map DeclL.label).getD i 0).toNat : Nat) : Int)) (by rw [hdc]; exact op_load rfl rfl (Pt.fld (Row.mk_pt (RowP.up hgp _) hd) _ (nl rfl)) rfl) ?_
    refine w_call rfl rfl (op_call rfl rfl rfl rfl) (want_ok hS.ok (hS.pt 4 rfl) (hS.pt 3 rfl) (lsN_64 hfi _ _ _) hlv (by rw [declL_at hd]; exact u64_lt hdf)) ?_
    rintro _ z ⟨hkX, hpX, rfl⟩
    have hS := hS.upd 4 rfl hkX (fun g hg => hg) (ptC (.ptr p9 0 0) [.bool _]) hpX (fun g hg => .inl hg)
    have hS : SH s [ptC (.ptr p0 0 0) [vp, vg, va, vc, vf], ptC (.ptr p1 0 0) [.int .i64 (k : Nat)], ptC (.ptr p2 0 0) [.int .i64 st.kind, .str st.name, vt, ve], ptC (.ptr p3 0 0) [.int .u64 (lv : Nat)], ptC (.ptr p9 0 0) [.bool ((List.range (i + 1)).all (fun i => wN ((lsN x (k : Nat) st).getD i 0 ||| lv) ((gg.params.map DeclL.label).getD i 0).toNat))], emC, ptC (.ptr p17 0 0) [.int .i64 5, .int .i64 (q : Nat)], ptC (.ptr p19 0 0) [.str gg.name, .int .u64 gg.level, gp, gr, gv, gb]] z := by rw [all_succ]; exact hS
    refine aq0 ?_
    refine wad ?_
    refine aq1 ?_
    exact rn ⟨i + 1, rfl, by omega, rfl, hS⟩
   obtain rfl : i = st.exprs.length := by omega
   refine aq2 ?_
   refine wvz (v := .int .u64 ((gg.level.toNat : Nat) : Int)) (by rw [u64_cast hggf.2.1]; exact oL 7 hS) ?_
   refine w_call rfl rfl (op_call rfl rfl rfl rfl) (want_ok (l := 0) hS.ok (hS.pt 4 rfl) (hS.pt 3 rfl) (by decide) hlv (u64_lt hggf.2.1)) ?_
   rintro _ z ⟨hkX, hpX, rfl⟩
   have hS := hS.upd 4 rfl hkX (fun g hg => hg) (ptC (.ptr p9 0 0) [.bool _]) hpX (fun g hg => .inl hg)
   have hS : SH s [ptC (.ptr p0 0 0) [vp, vg, va, vc, vf], ptC (.ptr p1 0 0) [.int .i64 (k : Nat)], ptC (.ptr p2 0 0) [.int .i64 st.kind, .str st.name, vt, ve], ptC (.ptr p3 0 0) [.int .u64 (lv : Nat)], ptC (.ptr p9 0 0) [.bool ((List.range st.exprs.length).all (fun i => wN ((lsN x (k : Nat) st).getD i 0 ||| lv) ((gg.params.map DeclL.label).getD i 0).toNat) && wN lv gg.level.toNat)], emC, ptC (.ptr p17 0 0) [.int .i64 5, .int .i64 (q : Nat)], ptC (.ptr p19 0 0) [.str gg.name, .int .u64 gg.level, gp, gr, gv, gb]] z := by rw [Nat.zero_or] at hS; exact hS
   refine aq0 ?_
   have hS : SH s [ptC (.ptr p0 0 0) [vp, vg, va, vc, vf], ptC (.ptr p1 0 0) [.int .i64 (k : Nat)], ptC (.ptr p2 0 0) [.int .i64 st.kind, .str st.name, vt, ve], ptC (.ptr p3 0 0) [.int .u64 (lv : Nat)], ptC (.ptr p9 0 0) [.bool ((List.range st.exprs.length).all (fun i => wN ((lsN x (k : Nat) st).getD i 0 ||| lv) ((gg.params.map DeclL.label).getD i 0).toNat) && wN lv gg.level.toNat && (List.range 0).all (fun i => wN ((gg.results.getD i 0).toNat ||| lv) (nmL x (k : Nat) (st.targets.getD i ByteArray.empty))))], emC, ptC (.ptr p17 0 0) [.int .i64 5, .int .i64 (q : Nat)], ptC (.ptr p19 0 0) [.str gg.name, .int .u64 gg.level, gp, gr, gv, gb]] z := by rw [List.range_zero, List.all_nil, Bool.and_true]; exact hS
   have hK := hS.K
   refine aq1 ?_
   refine wvz (v := vt) (oL 2 hS) ?_
   refine wvz (oN hst1) ?_
   refine aq1 ?_
   refine wc_loop_at (fun jj m z => ∃ i : Nat, jj = st.targets.length - i ∧ i ≤ st.targets.length ∧ m = [(4, .ptr p0 0 0), (5, .ptr p1 0 0), (6, .ptr p2 0 0), (9, .ptr p9 0 0), (10, .fn 74 [.ptr p9 0 0, .ptr p3 0 0]), (11, .fn 76 [.ptr p0 0 0, .ptr p1 0 0]), (19, .ptr p19 0 0), (121, vt), (122, .int .i64 (st.targets.length : Nat)), (123, .int .i64 (i : Nat))] ∧ SH s [ptC (.ptr p0 0 0) [vp, vg, va, vc, vf], ptC (.ptr p1 0 0) [.int .i64 (k : Nat)], ptC (.ptr p2 0 0) [.int .i64 st.kind, .str st.name, vt, ve], ptC (.ptr p3 0 0) [.int .u64 (lv : Nat)], ptC (.ptr p9 0 0) [.bool ((List.range st.exprs.length).all (fun i => wN ((lsN x (k : Nat) st).getD i 0 ||| lv) ((gg.params.map DeclL.label).getD i 0).toNat) && wN lv gg.level.toNat && (List.range i).all (fun i => wN ((gg.results.getD i 0).toNat ||| lv) (nmL x (k : Nat) (st.targets.getD i ByteArray.empty))))], emC, ptC (.ptr p17 0 0) [.int .i64 5, .int .i64 (q : Nat)], ptC (.ptr p19 0 0) [.str gg.name, .int .u64 gg.level, gp, gr, gv, gb]] z) st.targets.length
    [(4, .ptr p0 0 0), (5, .ptr p1 0 0), (6, .ptr p2 0 0), (9, .ptr p9 0 0), (10, .fn 74 [.ptr p9 0 0, .ptr p3 0 0]), (11, .fn 76 [.ptr p0 0 0, .ptr p1 0 0]), (19, .ptr p19 0 0), (121, vt), (122, .int .i64 (st.targets.length : Nat)), (123, .int .i64 ((0 : Nat) : Int))] (scn rfl (scn rfl (scn rfl (scn rfl (scn rfl (scn rfl (scn rfl (scn rfl (scn rfl (scn rfl (Sub.nil _))))))))))) ⟨0, by simp, by simp, rfl, hS⟩ ?_
   clear hS hK
   rintro jj m z ⟨i, rfl, hi, rfl, hS⟩
   have hK := hS.K
   refine aq1 ?_
   refine wcd (fun h124 => ?_) (fun h124 => ?_)
   ·refine aq0 ?_
    obtain ⟨tn, htn⟩ : ∃ d, st.targets[i]? = some d := ⟨_, gee (by omega)⟩
    obtain ⟨d, hd⟩ : ∃ d, gg.results[i]? = some d := ⟨_, gee (by omega)⟩
    have hdl := (ges.1 hd).1
    have hdf := hggf.2.2.2.1 d (mog hd)
    have hdc : (((gg.results.getD i 0).toNat : Nat) : Int) = d := by rw [res_at hd, u64_cast hdf]
    have h19 : p19 ≠ p9 := hS.ne (i := 7) (j := 4) (by decide) rfl rfl (msi.2 rfl) (msi.2 rfl)
    refine aq1 ?_
    refine wvz (oJ (RowP.up hvt _)) ?_
    refine wvz (v := .str tn) (oM (Row.mk_pt (RowP.up hvt _) htn)) ?_
    refine aq2 ?_
    have hR := Keep.refl (s := z) (hK.ok)
    refine wc_draw (Old z [p9]) (by kernel_rfl) rfl ?_
    refine aq2 ?_
    refine wo_load hR (v := gr) rfl rfl ((hS.pt 7 rfl).at (nl rfl)) rfl (by simp [AV.gs, h19]) rfl rfl ?_
    refine aq1 ?_
    refine wov (oJ (RowP.up hgr _)) ?_
    refine wo_load hR (v := .int .u64 (((gg.results.getD i 0).toNat : Nat) : Int)) rfl rfl (Row.mk_pt (RowP.up hgr _) hd) (by rw [hdc]; rfl) (no_gs (RowP.egs hgr _)) rfl rfl ?_
    refine aq2 ?_
    refine woc hR (lab_ok hR.ok hx hfi hv hy (Pt.bare ((hS.pt 0 rfl).keep0 hR)) (Pt.bare ((hS.pt 1 rfl).keep0 hR))) ?_
    rintro _ sA ⟨-, rfl⟩ hR
    refine wo_callX hR (fun _ h => h) rfl rfl (fun _ => rfl) (op_call rfl rfl rfl rfl) (want_ok (l := (gg.results.getD i 0).toNat) (w := nmL x (k : Nat) tn) hR.ok (Pt.bare ((hS.pt 4 rfl).keep0 hR)) (Pt.bare ((hS.pt 3 rfl).keep0 hR)) (by rw [res_at hd]; exact u64_lt hdf) hlv (labN_64 hfi _ _)) (fun _ _ h => h.1) ?_
    rintro _ sB ⟨-, hpX, rfl⟩ hkX
    refine aq0 ?_
    have hS := (hS.mov hR).upd 4 rfl hkX (fun g hg => hg) (ptC (.ptr p9 0 0) [.bool _]) hpX (fun g hg => .inl hg)
    have e2 : ((List.range st.exprs.length).all (fun i => wN ((lsN x (k : Nat) st).getD i 0 ||| lv) ((gg.params.map DeclL.label).getD i 0).toNat) && wN lv gg.level.toNat && (List.range (i + 1)).all (fun i => wN ((gg.results.getD i 0).toNat ||| lv) (nmL x (k : Nat) (st.targets.getD i ByteArray.empty)))) = ((List.range st.exprs.length).all (fun i => wN ((lsN x (k : Nat) st).getD i 0 ||| lv) ((gg.params.map DeclL.label).getD i 0).toNat) && wN lv gg.level.toNat && (List.range i).all (fun i => wN ((gg.results.getD i 0).toNat ||| lv) (nmL x (k : Nat) (st.targets.getD i ByteArray.empty))) && wN ((gg.results.getD i 0).toNat ||| lv) (nmL x (k : Nat) tn)) := by rw [all_succ, ← Bool.and_assoc, tgt_at htn]
    rw [← e2] at hS
    have hS : SH s [ptC (.ptr p0 0 0) [vp, vg, va, vc, vf], ptC (.ptr p1 0 0) [.int .i64 (k : Nat)], ptC (.ptr p2 0 0) [.int .i64 st.kind, .str st.name, vt, ve], ptC (.ptr p3 0 0) [.int .u64 (lv : Nat)], ptC (.ptr p9 0 0) [.bool ((List.range st.exprs.length).all (fun i => wN ((lsN x (k : Nat) st).getD i 0 ||| lv) ((gg.params.map DeclL.label).getD i 0).toNat) && wN lv gg.level.toNat && (List.range (i + 1)).all (fun i => wN ((gg.results.getD i 0).toNat ||| lv) (nmL x (k : Nat) (st.targets.getD i ByteArray.empty))))], emC, ptC (.ptr p17 0 0) [.int .i64 5, .int .i64 (q : Nat)], ptC (.ptr p19 0 0) [.str gg.name, .int .u64 gg.level, gp, gr, gv, gb]] _ := hS
    refine aq0 ?_
    refine wad ?_
    refine aq1 ?_
    exact rn ⟨i + 1, rfl, by omega, rfl, hS⟩
   obtain rfl : i = st.targets.length := by omega
   refine aq0 ?_
   refine cut_n ?_
   exact ⟨(scn rfl (Sub.nil _)), by rw [keptK, if_neg h49, if_neg h62, if_neg h72, if_pos h83, hp]; show SH s [ptC (.ptr p0 0 0) [vp, vg, va, vc, vf], ptC (.ptr p1 0 0) [.int .i64 (k : Nat)], ptC (.ptr p2 0 0) [.int .i64 st.kind, .str st.name, vt, ve], ptC (.ptr p3 0 0) [.int .u64 (lv : Nat)], ptC (.ptr p9 0 0) [.bool (match x.funcs[q]? with | some g => callK x k g st lv | none => true)]] z; rw [hgg]; exact hS.sub (.cons_cons _ (.cons_cons _ (.cons_cons _ (.cons_cons _ (.cons_cons _ (.cons _ (.cons _ (.cons _ (.refl _)))))))))⟩
  refine aq2 ?_
  refine wcb (fun h139 => ?_) (fun h139 => ?_)
  ·refine aq0 ?_
   have hS : SH s [ptC (.ptr p0 0 0) [vp, vg, va, vc, vf], ptC (.ptr p1 0 0) [.int .i64 (k : Nat)], ptC (.ptr p2 0 0) [.int .i64 st.kind, .str st.name, vt, ve], ptC (.ptr p3 0 0) [.int .u64 (lv : Nat)], ptC (.ptr p9 0 0) [.bool ((List.range 0).all fun i => wN ((lsN x (k : Nat) st).getD i 0 ||| lv) (y.results.getD i 0).toNat)], emC] z := hS
   have hrl := hio.ret h139
   refine aq1 ?_
   refine wvz (oN hr12l) ?_
   refine aq1 ?_
   refine wc_loop_at (fun jj m z => ∃ i : Nat, jj = st.exprs.length - i ∧ i ≤ st.exprs.length ∧ m = [(4, .ptr p0 0 0), (5, .ptr p1 0 0), (6, .ptr p2 0 0), (9, .ptr p9 0 0), (10, .fn 74 [.ptr p9 0 0, .ptr p3 0 0]), (11, .fn 76 [.ptr p0 0 0, .ptr p1 0 0]), (141, r12), (142, .int .i64 (st.exprs.length : Nat)), (143, .int .i64 (i : Nat))] ∧ SH s [ptC (.ptr p0 0 0) [vp, vg, va, vc, vf], ptC (.ptr p1 0 0) [.int .i64 (k : Nat)], ptC (.ptr p2 0 0) [.int .i64 st.kind, .str st.name, vt, ve], ptC (.ptr p3 0 0) [.int .u64 (lv : Nat)], ptC (.ptr p9 0 0) [.bool ((List.range i).all (fun i => wN ((lsN x (k : Nat) st).getD i 0 ||| lv) (y.results.getD i 0).toNat))], emC] z) st.exprs.length
    [(4, .ptr p0 0 0), (5, .ptr p1 0 0), (6, .ptr p2 0 0), (9, .ptr p9 0 0), (10, .fn 74 [.ptr p9 0 0, .ptr p3 0 0]), (11, .fn 76 [.ptr p0 0 0, .ptr p1 0 0]), (141, r12), (142, .int .i64 (st.exprs.length : Nat)), (143, .int .i64 ((0 : Nat) : Int))] (scn rfl (scn rfl (scn rfl (scn rfl (scn rfl (scn rfl (scn rfl (scn rfl (scn rfl (Sub.nil _)))))))))) ⟨0, by simp, by simp, rfl, hS⟩ ?_
   clear hS hK
   rintro jj m z ⟨i, rfl, hi, rfl, hS⟩
   refine aq1 ?_
   refine wcd (fun h144 => ?_) (fun h144 => ?_)
   ·refine aq0 ?_
    obtain ⟨d, hd⟩ : ∃ d, y.results[i]? = some d := ⟨_, gee (by omega)⟩
    have hdl := (ges.1 hd).1
    have hdf := hyf.2.2.2.1 d (mog hd)
    have hdc : (((y.results.getD i 0).toNat : Nat) : Int) = d := by rw [res_at hd, u64_cast hdf]
    refine aq1 ?_
    refine wvz (oJ (RowP.up hr12 _)) ?_
    refine wvz (v := .int .u64 ((lsN x (k : Nat) st).getD i 0 : Nat)) (op_load rfl rfl (Row.mk_pt (RowP.up hr12 _) (getD_at' (by omega))) rfl) ?_
    refine aq5 ?_
    refine wvz (v := vf) (oL 0 hS) ?_
    refine wvz (v := .int .i64 (k : Nat)) (oL 1 hS) ?_
    refine wvz (oI (RowP.up hrf _)) ?_
    refine wvz (oF (Row.pt (RowP.up hrf _) hcy)) ?_
    refine wvz (v := yr) (oM (Pt.fld (Row.pt (RowP.up hrf _) hcy) _ (nl rfl))) ?_
    refine aq1 ?_
    refine wvz (oJ (RowP.up hyr _)) ?_
    refine wvz (v := .int .u64 (((y.results.getD i 0).toNat : Nat) : Int)) (by rw [hdc]; exact op_load rfl rfl (Row.mk_pt (RowP.up hyr _) hd) rfl) ?_
    refine w_call rfl rfl (op_call rfl rfl rfl rfl) (want_ok hS.ok (hS.pt 4 rfl) (hS.pt 3 rfl) (lsN_64 hfi _ _ _) hlv (by rw [res_at hd]; exact u64_lt hdf)) ?_
    rintro _ z ⟨hkX, hpX, rfl⟩
    have hS := hS.upd 4 rfl hkX (fun g hg => hg) (ptC (.ptr p9 0 0) [.bool _]) hpX (fun g hg => .inl hg)
    have hS : SH s [ptC (.ptr p0 0 0) [vp, vg, va, vc, vf], ptC (.ptr p1 0 0) [.int .i64 (k : Nat)], ptC (.ptr p2 0 0) [.int .i64 st.kind, .str st.name, vt, ve], ptC (.ptr p3 0 0) [.int .u64 (lv : Nat)], ptC (.ptr p9 0 0) [.bool ((List.range (i + 1)).all (fun i => wN ((lsN x (k : Nat) st).getD i 0 ||| lv) (y.results.getD i 0).toNat))], emC] z := by rw [all_succ]; exact hS
    refine aq0 ?_
    refine wad ?_
    refine aq1 ?_
    exact rn ⟨i + 1, rfl, by omega, rfl, hS⟩
   obtain rfl : i = st.exprs.length := by omega
   refine aq0 ?_
   refine cut_n ?_
   exact ⟨(scn rfl (Sub.nil _)), by rw [keptK, if_neg h49, if_neg h62, if_neg h72, if_neg h83, if_pos h139]; exact hS.sub (.cons_cons _ (.cons_cons _ (.cons_cons _ (.cons_cons _ (.cons_cons _ (.cons _ (.refl _)))))))⟩
  refine aq0 ?_
  refine cut_n ?_
  exact ⟨(scn rfl (Sub.nil _)), by rw [keptK, if_neg h49, if_neg h62, if_neg h72, if_neg h83, if_neg h139]; exact hS.sub (.cons_cons _ (.cons_cons _ (.cons_cons _ (.cons_cons _ (.cons_cons _ (.cons _ (.refl _)))))))⟩
 clear hS hK
 rintro m z ⟨hm, hS⟩
 have hK := hS.K
 refine wc_sub hm ?_
 refine aq0 ?_
 refine wvz (v := .bool (keptK x k y st lv)) (oL 4 hS) ?_
 refine aq1 ?_
 exact ⟨_, rfl, hK, rfl⟩
end Go.Ab
namespace Go.Ab
open Go.Proofs
end Go.Ab
namespace Go.Ab
open Go.Proofs
end Go.Ab
namespace Go.Ab
open Go.Proofs
end Go.Ab
namespace Go.Ab
open Go.Proofs
theorem flt_ne {x : Flt} {l : List (Bool × Flt)} (hl : GoodF l) (hx : x = firstF l) (h : ¬ (x.err = 0 ∧ x.f = 0 ∧ x.at_ = 0)) : x.err ≠ 0 := by
 intro e
 subst hx
 rw [firstF_eta hl e] at h
 exact h ⟨rfl, rfl, rfl⟩
theorem good_flowT (s : SrcL) (k : Nat) (y : FunL) (i : Nat) : GoodF (flowT s k y i) := by
 unfold flowT
 split
 ·intro p hp; rw [msi.1 hp]; simp
 ·exact GoodF.nil
theorem good_flowF (s : SrcL) (k : Nat) : GoodF (flowF s k) := by
 unfold flowF
 split
 ·exact GoodF.flat fun i _ => good_flowT _ _ _ _
 ·exact GoodF.nil
theorem good_cD (s : SrcL) (i : Nat) : GoodF (checkL s ++ (List.range i).flatMap (flowF s)) := (good_chk s).app (GoodF.flat fun k _ => good_flowF s k)
theorem levs_at {s : SrcL} {k i : Nat} {y : FunL} (hy : s.funcs[k]? = some y) (h : (ends1 (kinds y)).isSome = true) (hi : i < y.body.length) : (levsN s (k : Nat))[i]? = some (levI s (k : Nat) y i) := by
 rw [levsN_in hy, levY_yes h, gmm, List.getElem?_range hi]; rfl
theorem levs_len {s : SrcL} {k : Nat} {y : FunL} (hy : s.funcs[k]? = some y) (h : (ends1 (kinds y)).isSome = true) : (levsN s (k : Nat)).length = y.body.length := by
 rw [levsN_in hy, levY_yes h, lmm, List.length_range]
theorem StmtR.leafs {x : StmtL} {c : List AV} (h : StmtR .leaf x c) : c.all AV.leaf = true := by
 obtain ⟨vt, ve, rfl, h1, css, h2, -⟩ := h
 simp only [List.all_cons, List.all_nil, h1.leaf, h2.leaf]; rfl
theorem StmtR.len {x : StmtL} {c : List AV} (h : StmtR .leaf x c) : c.length = 4 := by
 obtain ⟨vt, ve, rfl, -⟩ := h
 rfl
set_option maxRecDepth 10000 in
set_option maxHeartbeats 8000000 in
theorem flow_check_ok {s : St} {c : List AV} {x : SrcL} (hok : s.Ok) (hx : x.small) (hfi : x.fine) (hv : SrcP x c) :
  CallS Tryz.prog Tt Kt 12 [.agg c] s fun r s' => Keep [] s s' ∧ r = .agg (fltC (firstF (chkL x))) := by
 have hz := hv.leaf
 obtain ⟨vp, vg, va, vc, vf, rfl, hvp, hvg, hva, hvc, csf, hrf, hlf, hF⟩ := id hv
 obtain ⟨hl1, hl2, hl3, hl4, hl5, hsm⟩ := id hx
 have hsf : vf.slen = some x.funcs.length := by rw [hrf.slen, hlf]
 refine call_of (fn := Tryz.f12) (nt := 50) Tryz.func12 rfl rfl rfl ?_
 refine aq0 ?_
 have hS := SH.start hok
 refine aq0 ?_
 refine ws_box hS rfl rfl rfl hz ?_
 rintro p0 z hS hk
 have hS : SH _ [_] z _ := hS
 refine ws_alloc hS rfl rfl rfl rfl ?_
 rintro p2 z hS hk
 have hS : SH _ [_, _] z _ := hS
 refine aq0 ?_
 refine wvz (v := .agg [vp, vg, va, vc, vf]) (oL 0 hS) ?_
 refine wkz (check_ok hS.ok hx hfi hv) ?_
 rintro _ z ⟨hk, rfl⟩
 have hS := hS.mov hk
 refine ws_alloc hS rfl rfl rfl rfl ?_
 rintro p3 z hS hk
 have hS : SH _ [_, _, _] z _ := hS
 have hK := hS.K
 first | refine ws_storeL 2 hS rfl rfl rfl rfl rfl rfl (by first | rfl | assumption | exact Row.leaf (by assumption)) (nl rfl) ?_ | refine ws_store 2 hS rfl rfl rfl rfl rfl rfl (by first | rfl | assumption | exact Row.leaf (by assumption)) (nl rfl) ?_
 rintro z hS
 have hS : SH _ [_, _, _] z _ := hS
 refine aq0 ?_
 have hS : SH s [ptC (.ptr p0 0 0) [vp, vg, va, vc, vf], ptC (.ptr p2 0 0) [.int .i64 0, .int .i64 0, .int .i64 0], ptC (.ptr p3 0 0) (fltC (firstF (checkL x)))] z := hS
 have hK := hS.K
 refine aq0 ?_
 refine wvz (v := .agg (fltC (firstF (checkL x)))) (oL 2 hS) ?_
 refine aq1 ?_
 refine wvz (op_bin rfl rfl rfl) ?_
 refine aq0 ?_
 refine wc_condT rfl (fun h12 => ?_) (fun h12 => ?_)
 ·simp only [Bool.not_eq_true'] at h12
  have he := flt_ne (good_chk x) rfl (fun h => by rw [h.1, h.2.1, h.2.2] at h12; simp at h12)
  refine aq0 ?_
  refine wvz (v := .agg (fltC (firstF (checkL x)))) (oL 2 hS) ?_
  first | refine ws_storeL 1 hS rfl rfl rfl rfl rfl rfl (by first | rfl | assumption | exact Row.leaf (by assumption)) (nl rfl) ?_ | refine ws_store 1 hS rfl rfl rfl rfl rfl rfl (by first | rfl | assumption | exact Row.leaf (by assumption)) (nl rfl) ?_
  rintro z hS
  have hS : SH _ [_, _, _] z _ := hS
  have hK := hS.K
  refine aq0 ?_
  exact ⟨_, res_cell rfl rfl (hS.pt 1 rfl) rfl, hK, by rw [chk_err he]; rfl⟩
 simp only [beq_iff_eq, Bool.not_eq_false', Bool.and_eq_true] at h12
 have hOff : Off (checkL x) := (firstF_zero (good_chk x) h12.1)
 refine aq1 ?_
 refine wvz (v := vf) (oL 0 hS) ?_
 refine wvz (oN hsf) ?_
 refine aq1 ?_
 refine wc_loop_at (fun jj m z => ∃ k : Nat, jj = x.funcs.length - k ∧ k ≤ x.funcs.length ∧ m = [(1, .ptr p0 0 0), (2, .ptr p2 0 0), (15, vf), (16, .int .i64 (x.funcs.length : Nat)), (17, .int .i64 (k : Nat))] ∧ SH s [ptC (.ptr p0 0 0) [vp, vg, va, vc, vf], ptC (.ptr p2 0 0) [.int .i64 0, .int .i64 0, .int .i64 0], ptC (.ptr p3 0 0) (fltC (firstF (checkL x)))] z ∧ Off ((List.range k).flatMap (flowF x))) x.funcs.length
  [(1, .ptr p0 0 0), (2, .ptr p2 0 0), (15, vf), (16, .int .i64 (x.funcs.length : Nat)), (17, .int .i64 ((0 : Nat) : Int))] (scn rfl (scn rfl (scn rfl (scn rfl (scn rfl (Sub.nil _)))))) ⟨0, by simp, by simp, rfl, hS, Off.nil⟩ ?_
 clear hS hK
 rintro jj m z ⟨k, rfl, hkl, rfl, hS, hO⟩
 have hK := hS.K
 refine aq1 ?_
 refine wcd (fun h18 => ?_) (fun h18 => ?_)
 ·obtain ⟨y, hy⟩ : ∃ y, x.funcs[k]? = some y := ⟨_, gee (by omega)⟩
  obtain ⟨cy, hcy⟩ : ∃ c, csf[k]? = some c := ⟨_, gee (by omega)⟩
  obtain ⟨yp, yr, yv, yb, rfl, hyp, hyr, hyv, hyb⟩ := hF k y cy hy hcy
  obtain ⟨hy1, hy2, hy3, hy4, hy5⟩ := id (hsm y (mog hy))
  have hyf := hfi.2.2.2.2 y (mog hy)
  obtain ⟨csb, hbr, hbl, hbE⟩ := id hyb
  have hsb : yb.slen = some y.body.length := by rw [hbr.slen, hbl]
  have hends := ord_ends hOff hy
  refine aq2 ?_
  refine wvz (v := .agg [vp, vg, va, vc, vf]) (oL 0 hS) ?_
  refine aq1 ?_
  refine wkz (levels_ok hS.ok hx hfi hv hy) ?_
  rintro r5 z ⟨hk, hr5⟩
  have hS := hS.mov hk
  have hK := hS.K
  have hll := levs_len hy hends
  refine aq2 ?_
  refine wvz (v := vf) (oL 0 hS) ?_
  refine aq1 ?_
  refine wvz (oI (RowP.up hrf _)) ?_
  refine wvz (oF (Row.pt (RowP.up hrf _) hcy)) ?_
  refine wvz (v := yb) (oM (Pt.fld (Row.pt (RowP.up hrf _) hcy) _ (nl rfl))) ?_
  refine wvz (oN hsb) ?_
  refine aq1 ?_
  refine wc_loop_at (fun jj m z => ∃ i : Nat, jj = y.body.length - i ∧ i ≤ y.body.length ∧ m = [(1, .ptr p0 0 0), (2, .ptr p2 0 0), (4, .int .i64 (k : Nat)), (5, r5), (15, vf), (16, .int .i64 (x.funcs.length : Nat)), (17, .int .i64 (k : Nat)), (28, yb), (29, .int .i64 (y.body.length : Nat)), (30, .int .i64 (i : Nat))] ∧ SH s [ptC (.ptr p0 0 0) [vp, vg, va, vc, vf], ptC (.ptr p2 0 0) [.int .i64 0, .int .i64 0, .int .i64 0], ptC (.ptr p3 0 0) (fltC (firstF (checkL x)))] z ∧ Off ((List.range i).flatMap (flowT x k y))) y.body.length
   [(1, .ptr p0 0 0), (2, .ptr p2 0 0), (4, .int .i64 (k : Nat)), (5, r5), (15, vf), (16, .int .i64 (x.funcs.length : Nat)), (17, .int .i64 (k : Nat)), (28, yb), (29, .int .i64 (y.body.length : Nat)), (30, .int .i64 ((0 : Nat) : Int))] (scn rfl (scn rfl (scn rfl (scn rfl (scn rfl (scn rfl (scn rfl (scn rfl (scn rfl (scn rfl (Sub.nil _))))))))))) ⟨0, by simp, by simp, rfl, hS, Off.nil⟩ ?_
  clear hS hK
  rintro jj m z ⟨i, rfl, hi, rfl, hS, hO2⟩
  have hK := hS.K
  refine aq1 ?_
  refine wcd (fun h31 => ?_) (fun h31 => ?_)
  ·obtain ⟨st, hst⟩ : ∃ st, y.body[i]? = some st := ⟨_, gee (by omega)⟩
   obtain ⟨cst, hcst⟩ : ∃ c, csb[i]? = some c := ⟨_, gee (by omega)⟩
   have hsr := hbE i st cst hst hcst
   obtain ⟨vt, ve, rfl, -⟩ := id hsr
   have hsz := hsr.leafs
   have hio := ord_stmt hOff hy hst
   have hfl : flowT x k y i = [(!keptK x k y st (levI x (k : Nat) y i), ⟨80, k, i⟩)] := flowT_at hst
   refine aq0 ?_
   have hlv := levI_64 hfi (f := (k : Nat)) hyf.2.1 i
   have hli := levs_at hy hends (i := i) (by omega)
   have hcl := hsr.len
   refine aq1 ?_
   refine wvz (oI (RowP.up hbr _)) ?_
   refine wvz (v := .agg [.int .i64 st.kind, .str st.name, vt, ve]) (oM (Row.pt (RowP.up hbr _) hcst)) ?_
   refine ws_alloc hS rfl rfl rfl rfl ?_
   rintro p7 z hS hk
   have hS : SH _ [_, _, _, _] z _ := hS
   have hK := hS.K
   refine aq1 ?_
   first | refine ws_storeL 3 hS rfl rfl rfl rfl rfl rfl (by first | rfl | assumption | exact Row.leaf (by assumption)) (nl rfl) ?_ | refine ws_store 3 hS rfl rfl rfl rfl rfl rfl (by first | rfl | assumption | exact Row.leaf (by assumption)) (nl rfl) ?_
   rintro z hS
   have hS : SH _ [_, _, _, _] z _ := hS
   have hK := hS.K
   refine aq0 ?_
   have hR := Keep.refl (s := z) (by first | exact hK.ok | exact hS.ok | assumption)
   refine wc_draw (Old z []) (by kernel_rfl) rfl ?_
   refine wol hR (v := .agg [vp, vg, va, vc, vf]) ((hS.pt 0 rfl).at (o := 0) (Nat.zero_le _)) (fun _ _ h => by cases h) ?_
   refine aq1 ?_
   refine wol hR (v := .agg [.int .i64 st.kind, .str st.name, vt, ve]) ((hS.pt 3 rfl).at (o := 0) (Nat.zero_le _)) (fun _ _ h => by cases h) ?_
   refine aq2 ?_
   refine wov (oJ (RowP.up hr5 _)) ?_
   refine wol hR (v := .int .u64 ((levI x (k : Nat) y i : Nat) : Int)) (Row.mk_pt (RowP.up hr5 _) hli) (no_gs (RowP.egs hr5 _)) ?_
   refine woc hR (keeps_ok hR.ok hx hfi hv hy hsr (hy5 st (mog hst)) hio hlv) ?_
   rintro _ sQ ⟨-, rfl⟩ hR
   refine aq1 ?_
   have hS := hS.mov hR
   generalize St.mk sQ.ctr z.h (sQ.wr ++ z.wr) = z at hS ⊢
   have hK := hS.K
   refine aq0 ?_
   refine wc_condT rfl (fun h43 => ?_) (fun h43 => ?_)
   ·simp only [Bool.not_eq_true'] at h43
    refine aq3 ?_
    first | refine ws_storeL 1 hS rfl rfl rfl rfl rfl rfl (by first | rfl | assumption | exact Row.leaf (by assumption)) (nl rfl) ?_ | refine ws_store 1 hS rfl rfl rfl rfl rfl rfl (by first | rfl | assumption | exact Row.leaf (by assumption)) (nl rfl) ?_
    rintro z hS
    have hS : SH _ [_, _, _, _] z _ := hS
    have hK := hS.K
    refine aq0 ?_
    exact ⟨_, res_cell rfl rfl (hS.pt 1 rfl) rfl, hK, by rw [flow_hit hOff hy hst hO hO2 h43]; rfl⟩
   simp only [Bool.not_eq_false'] at h43
   refine aq0 ?_
   refine wad ?_
   refine aq1 ?_
   have hS : SH s [ptC (.ptr p0 0 0) [vp, vg, va, vc, vf], ptC (.ptr p2 0 0) [.int .i64 0, .int .i64 0, .int .i64 0], ptC (.ptr p3 0 0) (fltC (firstF (checkL x)))] z := hS.sub (.cons_cons _ (.cons_cons _ (.cons_cons _ (.cons _ (.refl _)))))
   exact rn ⟨i + 1, rfl, by omega, rfl, hS, flat_off hO2 (by rw [hfl, h43]; exact Off.cons rfl Off.nil)⟩
  obtain rfl : i = y.body.length := by omega
  refine aq0 ?_
  refine wad ?_
  refine aq1 ?_
  exact rn ⟨k + 1, rfl, by omega, rfl, hS, flat_off hO (by rw [flowF_at hy]; exact hO2)⟩
 obtain rfl : k = x.funcs.length := by omega
 refine aq1 ?_
 first | refine ws_storeL 1 hS rfl rfl rfl rfl rfl rfl (by first | rfl | assumption | exact Row.leaf (by assumption)) (nl rfl) ?_ | refine ws_store 1 hS rfl rfl rfl rfl rfl rfl (by first | rfl | assumption | exact Row.leaf (by assumption)) (nl rfl) ?_
 rintro z hS
 have hS : SH _ [_, _, _] z _ := hS
 have hK := hS.K
 refine aq0 ?_
 exact ⟨_, res_cell rfl rfl (hS.pt 1 rfl) rfl, hK, by rw [flow_off hOff hO]; rfl⟩
end Go.Ab
namespace Go.Ab
section
variable {P : Program} {T : Tab} {K : Kn}
theorem FzL.flatN {h : Tr Grp} {E : Nat → Prop} : ∀ {a a' : List (List AV)}, a'.length = a.length → (∀ (i : Nat) (c c' : List AV), a[i]? = some c → a'[i]? = some c' → FzL h E c c') → FzL h E a.flatten a'.flatten
 | [], [], _, _ => .nil
 | x :: a, y :: a', hl, hk => FzL.app (hk 0 x y rfl rfl) (FzL.flatN (by simpa using hl) fun i c c' h1 h2 => hk (i + 1) c c' (by simpa using h1) (by simpa using h2))
 | [], _ :: _, hl, _ => by simp at hl
 | _ :: _, [], hl, _ => by simp at hl
theorem row_toldN {h : Tr Grp} {E : Nat → Prop} {sz : Nat} {v : AV} {css css' : List (List AV)} (hr : Row h sz v css) (hn : v.gs ≠ []) (hg : ∀ g ∈ v.gs, E g) (hl : css'.length = css.length)
  (hc : ∀ c' ∈ css', c'.length = sz ∧ c'.all AV.leaf = true) (hk : ∀ (i : Nat) (c c' : List AV), css[i]? = some c → css'[i]? = some c' → FzL h E c c') : ∃ r, FzL h E [v] [r] ∧ RowP sz r css' := by
 cases v with
 | slc g j off sz' len lo ex =>
  have h6 := hr.rd
  obtain ⟨rfl, h2, h3, h4, h5, -⟩ := hr
  have hm : (css'.map packC).map AV.cells = css' := by
   rw [List.map_map]
   conv => rhs; rw [← List.map_id css']
   exact List.map_congr_left fun c hc' => packC_cells (hc c hc').2
  refine ⟨.ro false (css'.map packC), .slc (hg g (mcs ..)) h2 (fun x hx => ?_) (cs := css.flatten) (by rw [lmm, hl, ← h3]; exact h6) (by rw [lmm, h3, hl]) h4 (by rw [List.flatMap_def, hm]; exact FzL.flatN hl hk) .nil, hm, hc⟩
  obtain ⟨c, hc', rfl⟩ := List.mem_map.1 hx
  rw [packC_cells (hc c hc').2]
  exact hc c hc'
 | nils => exact (hn rfl).elim
 | ro nl xs => exact (hn rfl).elim
 | _ => exact hr.elim
end
end Go.Ab
namespace Go.Ab
open Go.Proofs
theorem pick_all {α : Type} {S : α → List AV → List AV → Prop} : ∀ {xs : List α} {css : List (List AV)}, css.length = xs.length → (∀ (i : Nat) (x : α) (c : List AV), xs[i]? = some x → css[i]? = some c → ∃ c', S x c c') →
  ∃ css' : List (List AV), css'.length = css.length ∧ ∀ (i : Nat) (x : α) (c c' : List AV), xs[i]? = some x → css[i]? = some c → css'[i]? = some c' → S x c c'
 | [], [], _, _ => ⟨[], rfl, fun i x c c' h => by simp at h⟩
 | x :: xs, c :: css, hl, h => by
  obtain ⟨c0, h0⟩ := h 0 x c rfl rfl
  obtain ⟨r, h1, h2⟩ := pick_all (xs := xs) (css := css) (by simpa using hl) fun i y d k1 k2 => h (i + 1) y d (by simpa using k1) (by simpa using k2)
  refine ⟨c0 :: r, by simp [h1], fun i y d d' k1 k2 k3 => ?_⟩
  cases i with
  | zero =>
   simp only [List.getElem?_cons_zero, sjj] at k1 k2 k3
   subst k1; subst k2; subst k3
   exact h0
  | succ i => exact h2 i y d d' (by simpa using k1) (by simpa using k2) (by simpa using k3)
 | [], _ :: _, hl, _ => by simp at hl
 | _ :: _, [], hl, _ => by simp at hl
section
variable {h : Tr Grp} {F E : Nat → Prop} {sz : Nat} {mk c : List AV} {v : AV}
theorem LentF.told {α : Type} {f : α → List AV} {xs : List α} (k : LentF h F sz f mk v xs) (hF : ∀ g, F g → E g) : ∃ r, FzL h E [v] [r] ∧ RowP sz r (xs.map f) := row_told k.1.row fun g hg => hF g (k.2 g hg)
theorem LentRF.told {α : Type} {R : RP α} {R' : Tr Grp → α → List AV → Prop} {xs : List α} (k : LentRF h F sz R mk v xs) (hF : ∀ g, F g → E g)
  (hR : ∀ x c, R h F x c → ∃ c', FzL h E c c' ∧ R' .leaf x c' ∧ c'.length = sz ∧ c'.all AV.leaf = true) : ∃ r, FzL h E [v] [r] ∧ RowR .leaf sz R' r xs := by
 obtain ⟨u, css, rfl, hu, hF1, hr, hl, hx⟩ := k
 obtain ⟨css', h1, h2⟩ := pick_all (S := fun x c c' => FzL h E c c' ∧ R' .leaf x c' ∧ c'.length = sz ∧ c'.all AV.leaf = true) hl fun i x c k1 k2 => hR x c (hx i x c k1 k2)
 have h3 : ∀ i c', css'[i]? = some c' → ∃ x c, xs[i]? = some x ∧ css[i]? = some c := fun i c' hc => by
  have := (ges.1 hc).1
  exact ⟨xs[i]'(by omega), css[i]'(by omega), gee (by omega), gee (by omega)⟩
 obtain ⟨r, e1, e2⟩ := row_toldN (hr.less hl) (by rw [cutA_gs]; exact hu) (by rw [cutA_gs]; exact fun g hg => hF g (hF1 g hg)) h1 (fun c' hc => by
   obtain ⟨i, hi⟩ := List.getElem?_of_mem hc
   obtain ⟨x, c, k1, k2⟩ := h3 i c' hi
   exact (h2 i x c c' k1 k2 hi).2.2) (fun i c c' k1 k2 => by
   obtain ⟨x, d, k3, k4⟩ := h3 i c' k2
   rw [k1] at k4
   cases k4
   exact (h2 i x c c' k3 k1 k2).1)
 refine ⟨r, e1, css', e2, by omega, fun i x c' k1 k2 => ?_⟩
 obtain ⟨y, d, k3, k4⟩ := h3 i c' k2
 rw [k1] at k3
 cases k3
 exact (h2 i x d c' k1 k4 k2).2.1
theorem terms_told {ts : List TermL} (k : TermsLF h F ts c) (hF : ∀ g, F g → E g) : ∃ c', FzL h E c c' ∧ TermsR .leaf ts c' ∧ c'.length = 1 ∧ c'.all AV.leaf = true := by
 obtain ⟨v, rfl, hv⟩ := k
 obtain ⟨r, h1, h2⟩ := hv.told hF
 exact ⟨[r], h1, ⟨r, rfl, h2⟩, rfl, by simp [h2.leaf]⟩
theorem stmt_told {x : StmtL} (k : StmtLF h F x c) (hF : ∀ g, F g → E g) : ∃ c', FzL h E c c' ∧ StmtR .leaf x c' ∧ c'.length = 4 ∧ c'.all AV.leaf = true := by
 obtain ⟨vt, ve, rfl, h1, h2⟩ := k
 obtain ⟨r1, e1, k1⟩ := h1.told hF
 obtain ⟨r2, e2, k2⟩ := h2.told (R' := TermsR) hF fun ts c hc => terms_told hc hF
 refine ⟨[.int .i64 x.kind, .str x.name, r1, r2], .same _ (.same _ (FzL.cons e1 e2)), ⟨r1, r2, rfl, k1, k2⟩, rfl, ?_⟩
 obtain ⟨css, k3, -⟩ := k2
 simp only [List.all_cons, List.all_nil, k1.leaf, k3.leaf]; rfl
theorem fun_told {x : FunL} (k : FunLF h F x c) (hF : ∀ g, F g → E g) : ∃ c', FzL h E c c' ∧ FunR .leaf x c' ∧ c'.length = 6 ∧ c'.all AV.leaf = true := by
 obtain ⟨vp, vr, vv, vb, rfl, h1, h2, h3, h4⟩ := k
 obtain ⟨r1, e1, k1⟩ := h1.told hF
 obtain ⟨r2, e2, k2⟩ := h2.told hF
 obtain ⟨r3, e3, k3⟩ := h3.told hF
 obtain ⟨r4, e4, k4⟩ := h4.told (R' := StmtR) hF fun x c hc => stmt_told hc hF
 refine ⟨[.str x.name, .int .u64 x.level, r1, r2, r3, r4], .same _ (.same _ (FzL.cons e1 (FzL.cons e2 (FzL.cons e3 e4)))), ⟨r1, r2, r3, r4, rfl, k1, k2, k3, k4⟩, rfl, ?_⟩
 obtain ⟨css, k5, -⟩ := k4
 simp only [List.all_cons, List.all_nil, k1.leaf, k2.leaf, k3.leaf, k5.leaf]; rfl
theorem src_told {x : SrcL} (k : SrcLF h F x c) (hF : ∀ g, F g → E g) : ∃ c', FzL h E [.agg c] [.agg c'] ∧ SrcP x c' := by
 obtain ⟨vp, vg, va, vc, vf, rfl, h1, h2, h3, h4, h5⟩ := k
 obtain ⟨r1, e1, k1⟩ := h1.told hF
 obtain ⟨r2, e2, k2⟩ := h2.told hF
 obtain ⟨r3, e3, k3⟩ := h3.told hF
 obtain ⟨r4, e4, k4⟩ := h4.told hF
 obtain ⟨r5, e5, k5⟩ := h5.told (R' := FunR) hF fun x c hc => fun_told hc hF
 exact ⟨[r1, r2, r3, r4, r5], .agg (FzL.cons e1 (FzL.cons e2 (FzL.cons e3 (FzL.cons e4 e5)))) .nil, ⟨r1, r2, r3, r4, r5, rfl, k1, k2, k3, k4, k5⟩⟩
end
end Go.Ab
namespace Go.Ab
def lfC {α : Type} (F : Nat → Prop) (sz : Nat) (f : α → List AV) (mk : List AV) (v : AV) (xs : List α) : Chunk := ⟨F, fun h => LentF h F sz f mk v xs, fun k h hY => k.keep h hY⟩
def lrC {α : Type} {R : RP α} (hG : Good R) (F : Nat → Prop) (sz : Nat) (mk : List AV) (v : AV) (xs : List α) : Chunk := ⟨F, fun h => LentRF h F sz R mk v xs, fun k h hY => k.keep hG h hY⟩
def thC {α : Type} {R : RP α} (hG : Good R) (F : Nat → Prop) (x : α) (c : List AV) : Chunk := ⟨F, fun h => R h F x c, fun k h hY => hG.keep k h hY⟩
def mkC {α : Type} {R : RP α} (hG : Good R) (F : Nat → Prop) (sz : Nat) (mk : List AV) (v : AV) (xs : List α) : Chunk :=
 ⟨F, fun h => v.gs ≠ [] ∧ (∀ g ∈ v.gs, F g) ∧ ∃ css, Row h sz v (css ++ [mk]) ∧ css.length = xs.length ∧ ∀ (i : Nat) (x : α) (c : List AV), xs[i]? = some x → css[i]? = some c → R h F x c,
   fun ⟨h1, h2, css, h3, h4, h5⟩ h hY => ⟨h1, h2, css, h3.keep h fun g hg hy => hY g hy (h2 g hg), h4, fun i x c k1 k2 => hG.keep (h5 i x c k1 k2) h hY⟩⟩
section
variable {P : Program} {T : Tab} {K : Kn} {nt : NT} {ops : Array Oper} {rest : List Oper} {m : Sy} {s s0 : St} {Q : Sy → St → Prop} {d ty : Nat} {pos : String} {af : Array Edge} {g : Option (Nat × Bool)} {L : List Chunk} {α : Type}
theorem ws_app_mkB {R : RP α} {hG : Good R} {F : Nat → Prop} {sz : Nat} {f b : AV} {xs : List α} {c : List AV} {tt e : TypeId} {x y : Operand} {args : Array Operand} {tys : Array TypeId} {i ie : TI} (n : Nat) (hS : SH s0 L s) (hn : L[n]? = some (bldC R hG F sz f xs))
  (hg : guardY ops m g = some true) (hd : Nat.ble (d + 1) nt.n = true) (h1 : args.toList = [x, y]) (h2 : tys.toList = [tt, tt]) (hx : evY m x = some f) (hy : evY m y = some b) (hT : T tt = some i) (hs : i.sh = .slice e) (he : T e = some ie) (hsz : ie.size = sz) (h0 : sz ≠ 0) (hb : Row s.h sz b [c])
  (hb1 : (xs.length + 1) * ie.bytes ≤ maxBytes) (hb2 : xs.length + 1 ≤ maxBytes)
  (k : ∀ v s' F', SH s0 (L.set n (mkC hG F' sz c v xs)) s' → W P T K nt ops rest ((d, v) :: m) s' Q) :
  W P T K nt ops (⟨some d, .call ⟨.builtin .append, args, tys⟩, ty, pos, af, g⟩ :: rest) m s Q := by
 subst hsz
 obtain ⟨css, hr, hnl, hgF, hl, hX⟩ := hS.bld n hn
 refine w_append hg hd h1 h2 hx hy hT hs he h0 hS.ok hr hnl hb (by rw [hl]; exact hb1) (by rw [hl]; exact hb2) ?_
 intro v s' hv hk hle hvg hvn hne
 have hbn := hS.bdX n hn
 have hvl := hv.lt hk.ok
 let F' : Nat → Prop := fun g => F g ∨ (s.ctr ≤ g ∧ g < s'.ctr)
 have hvF : ∀ g ∈ v.gs, F' g := fun g hg => by
  rcases hvg with h | h
  ·exact .inl (hgF g (by rwa [h] at hg))
  ·refine .inr ⟨?_, hvl g hg⟩
   rw [h] at hg; rw [msi.1 hg]; exact nlr _
 have hP : (mkC hG F' ie.size c v xs).P s'.h := by
  refine ⟨hne (by simp), hvF, css, hv, hl, fun i x c' h1' h2' => ?_⟩
  exact hG.mono (hG.keep (hX i x c' h1' h2') hk fun g hg hF => hF.2 hg) fun g hF => .inl hF.1
 exact k v s' F' (hS.upd n hn hk (fun g hg => hgF g hg) (mkC hG F' ie.size c v xs) hP fun g hg => hg)
end
open Go.Proofs
set_option maxRecDepth 10000 in
set_option maxHeartbeats 8000000 in
theorem lentSource_ok {s : St} {c : List AV} {x : SrcL} (hok : s.Ok) (hx : x.small) (hv : SrcR s.h x c) :
  CallS Tryz.prog Tt Kt 11 [.agg c] s (fun r s' => Keep [] s s' ∧ ∃ c', r = .agg c' ∧ SrcLF s'.h (Fr s.ctr s'.ctr []) x c') := by
 have hz : c.all AV.leaf = true := by
  obtain ⟨vp, vg, va, vc, vf, rfl, h1, h2, h3, h4, css, h5, -⟩ := hv
  simp only [List.all_cons, List.all_nil, h1.leaf, h2.leaf, h3.leaf, h4.leaf, h5.leaf]; rfl
 obtain ⟨vp, vg, va, vc, vf, rfl, hvp, hvg, hva, hvc, csf, hrf, hlf, hF⟩ := hv
 obtain ⟨hl1, hl2, hl3, hl4, hl5, hsm⟩ := hx
 refine call_of (fn := Tryz.f11) (nt := 77) Tryz.func11 rfl rfl rfl ?_
 refine aq0 ?_
 have hS := SH.start hok
 refine aq0 ?_
 refine ws_box hS rfl rfl rfl hz ?_
 rintro p0 z hS hk
 have hS : SH _ [_] z := hS
 refine ws_alloc hS rfl rfl rfl rfl ?_
 rintro p1 z hS hk
 have hS : SH _ [_, _] z := hS
 refine aq0 ?_
 refine ws_alloc hS rfl rfl rfl rfl ?_
 rintro p2 z hS hk
 have hS : SH _ [_, _, _] z := hS
 have hK := hS.K
 refine aq1 ?_
 refine wvz (oL 0 hS) ?_
 refine wkz (lentStrings_ok hK.ok hl1 (hvp.keep0 hK)) ?_
 rintro r1 z ⟨hk, hl⟩
 have hS := hS.add hk (lfC _ 1 sC [.str markB] r1 x.principals) hl (fun g h => ⟨h.1, h.2.1⟩)
 have hr1 : r1.leaf = true := hl.1.leaf
 have hS : SH _ [_, _, _, _] z := hS
 have hK := hS.K
 clear hk hl
 refine aq1 ?_
 refine ws_storeL 2 hS rfl rfl rfl rfl rfl rfl (by assumption) (nl rfl) ?_
 rintro z hS
 have hS : SH _ [_, _, _, _] z := hS
 have hK := hS.K
 refine aq1 ?_
 refine wvz (oL 0 hS) ?_
 refine wkz (lentDecls_ok hK.ok hl2 (hvg.keep0 hK)) ?_
 rintro r2 z ⟨hk, hl⟩
 have hS := hS.add hk (lfC _ 2 dC mkD r2 x.globals) hl (fun g h => ⟨h.1, h.2.1⟩)
 have hr2 : r2.leaf = true := hl.1.leaf
 have hS : SH _ [_, _, _, _, _] z := hS
 have hK := hS.K
 clear hk hl
 refine aq1 ?_
 refine ws_storeL 2 hS rfl rfl rfl rfl rfl rfl (by assumption) (nl rfl) ?_
 rintro z hS
 have hS : SH _ [_, _, _, _, _] z := hS
 have hK := hS.K
 refine aq1 ?_
 refine wvz (oL 0 hS) ?_
 refine wkz (lentDecls_ok hK.ok hl4 (hvc.keep0 hK)) ?_
 rintro r3 z ⟨hk, hl⟩
 have hS := hS.add hk (lfC _ 2 dC mkD r3 x.channels) hl (fun g h => ⟨h.1, h.2.1⟩)
 have hr3 : r3.leaf = true := hl.1.leaf
 have hS : SH _ [_, _, _, _, _, _] z := hS
 have hK := hS.K
 clear hk hl
 refine aq1 ?_
 refine ws_storeL 2 hS rfl rfl rfl rfl rfl rfl (by assumption) (nl rfl) ?_
 rintro z hS
 have hS : SH _ [_, _, _, _, _, _] z := hS
 refine aq1 ?_
 have hS := hS.nil 3
 have hS : SH _ [_, _, _, _, _, _, _] z := hS
 have hK := hS.K
 refine aq2 ?_
 refine wvz (oL 0 hS) ?_
 refine ws_append 6 hS rfl rfl rfl rfl rfl rfl rfl rfl rfl rfl rfl (by decide) (hva.keep0 hK) (by (simp only [lmm, lnn, maxBytes]; omega)) (by (simp only [lmm, lnn, maxBytes]; omega)) ?_
 rintro at23 z hS
 have hS : SH _ [_, _, _, _, _, _, _] z := hS
 refine aq3 ?_
 refine ws_lit1 hS rfl rfl rfl rfl rfl rfl rfl rfl (by decide) (by decide) rfl (by rfl) rfl ?_
 rintro lt26 z hS hk hlt26
 refine ws_append 6 hS rfl rfl rfl rfl rfl rfl rfl rfl rfl rfl rfl (by decide) (hlt26) (by (simp only [lmm, lnn, laa, lcc, maxBytes]; omega)) (by (simp only [lmm, lnn, laa, lcc, maxBytes]; omega)) ?_
 rintro at27 z hS
 have hS : SH _ [_, _, _, _, _, _, _] z := hS
 have hK := hS.K
 refine aq3 ?_
 refine wvz (oL 0 hS) ?_
 refine wvz (op_len rfl rfl rfl rfl rfl (Row.slenF (by assumption))) ?_
 refine wvz (op_cut (l := none) (h := some x.arrays.length) (l' := 0) (h' := x.arrays.length) rfl rfl (optY_some rfl (natA_cast _ _)) rfl rfl rfl rfl (hS.row 6 rfl) rfl rfl (Nat.zero_le _) (by simp)) ?_
 refine aq1 ?_
 refine ws_storeL 2 hS rfl rfl rfl rfl rfl rfl ((hS.row 6 rfl).less (by simp)).leaf (nl rfl) ?_
 rintro z hS
 have hS : SH _ [_, _, _, _, _, _, _] z := hS
 refine aq1 ?_
 have hS := hS.nilB FunLF good_fun 6
 have hS : SH _ [_, _, _, _, _, _, _, _] z := hS
 have hK := hS.K
 refine aq1 ?_
 refine wc_loop_at (fun jj m z => ∃ (k : Nat) (f : AV) (FS F3 F4 F5 : Nat → Prop), jj = x.funcs.length - k ∧ k ≤ x.funcs.length ∧ m = [(1, .ptr p0 0 0), (2, .ptr p1 0 0), (3, .ptr p2 0 0), (5, f), (6, .int .i64 (k : Nat))] ∧ SH s [ptC (.ptr p0 0 0) [vp, vg, va, vc, vf], ptC (.ptr p1 0 0) [.nils, .nils, .nils, .nils, .nils], ptC (.ptr p2 0 0) [r1, r2, cutA at27 0 x.arrays.length, r3, .nils], lfC F3 1 sC [.str markB] r1 x.principals, lfC F4 2 dC mkD r2 x.globals, lfC F5 2 dC mkD r3 x.channels, rowC at27 3 (x.arrays.map adC ++ [mkA]), bldC FunLF good_fun FS 6 f (x.funcs.take k)] z) x.funcs.length
  [(1, .ptr p0 0 0), (2, .ptr p1 0 0), (3, .ptr p2 0 0), (5, .nils), (6, .int .i64 ((0 : Nat) : Int))] (scn rfl (scn rfl (scn rfl (scn rfl (scn rfl (Sub.nil _)))))) ⟨0, .nils, _, _, _, _, by simp, by simp, rfl, hS⟩ ?_
 clear hS hK
 rintro jj m z ⟨k, f, FS, F3, F4, F5, rfl, hk, rfl, hS⟩
 have hK := hS.K
 have hsf : vf.slen = some x.funcs.length := by rw [hrf.slen, hlf]
 refine aq2 ?_
 refine wvz (oL 0 hS) ?_
 refine wvz (oN hsf) ?_
 refine aq1 ?_
 refine wcd (fun h38 => ?_) (fun h38 => ?_)
 ·refine aq0 ?_
  obtain ⟨y, hy⟩ : ∃ y, x.funcs[k]? = some y := ⟨_, gee (by omega)⟩
  obtain ⟨cy, hcy⟩ : ∃ c, csf[k]? = some c := ⟨_, gee (by omega)⟩
  obtain ⟨yp, yr, yv, yb, rfl, hyp, hyr, hyv, hyb⟩ := hF k y cy hy hcy
  have hsy := hsm y (mog hy)
  obtain ⟨hy1, hy2, hy3, hy4, hy5⟩ := hsy
  have hzy : ([.str y.name, .int .u64 y.level, yp, yr, yv, yb] : List AV).all AV.leaf = true := by
   obtain ⟨css, h5, -⟩ := id hyb
   simp only [List.all_cons, List.all_nil, hyp.leaf, hyr.leaf, hyv.leaf, h5.leaf]; rfl
  have hrz := hrf.keep0 hK
  refine aq1 ?_
  refine wvz (oL 0 hS) ?_
  refine aq1 ?_
  refine wvz (oI hrz) ?_
  refine wvz (oM (Row.pt hrz hcy)) ?_
  refine ws_alloc hS rfl rfl rfl rfl ?_
  rintro p8 z hS hk
  have hS : SH _ [_, _, _, _, _, _, _, _, _] z := hS
  refine ws_store 8 hS rfl rfl rfl rfl rfl rfl hzy (nl rfl) ?_
  rintro z hS
  have hS : SH _ [_, _, _, _, _, _, _, _, _] z := hS
  have hK := hS.K
  refine aq1 ?_
  refine wvz (oL 8 hS) ?_
  refine wkz (lentDecls_ok hK.ok hy1 (hyp.keep0 hK)) ?_
  rintro q1 z ⟨hk, hl⟩
  have hS := hS.add hk (lfC _ 2 dC mkD q1 y.params) hl (fun g h => ⟨h.1, h.2.1⟩)
  have hq1 : q1.leaf = true := hl.1.leaf
  have hS : SH _ [_, _, _, _, _, _, _, _, _, _] z := hS
  have hK := hS.K
  clear hk hl
  refine aq1 ?_
  refine ws_storeL 8 hS rfl rfl rfl rfl rfl rfl (by assumption) (nl rfl) ?_
  rintro z hS
  have hS : SH _ [_, _, _, _, _, _, _, _, _, _] z := hS
  have hK := hS.K
  refine aq1 ?_
  refine wvz (oL 8 hS) ?_
  refine wkz (lentLabels_ok hK.ok hy2 (hyr.keep0 hK)) ?_
  rintro q2 z ⟨hk, hl⟩
  have hS := hS.add hk (lfC _ 1 lC [.int .u64 7171] q2 y.results) hl (fun g h => ⟨h.1, h.2.1⟩)
  have hq2 : q2.leaf = true := hl.1.leaf
  have hS : SH _ [_, _, _, _, _, _, _, _, _, _, _] z := hS
  have hK := hS.K
  clear hk hl
  refine aq1 ?_
  refine ws_storeL 8 hS rfl rfl rfl rfl rfl rfl (by assumption) (nl rfl) ?_
  rintro z hS
  have hS : SH _ [_, _, _, _, _, _, _, _, _, _, _] z := hS
  have hK := hS.K
  refine aq1 ?_
  refine wvz (oL 8 hS) ?_
  refine wkz (lentDecls_ok hK.ok hy3 (hyv.keep0 hK)) ?_
  rintro q3 z ⟨hk, hl⟩
  have hS := hS.add hk (lfC _ 2 dC mkD q3 y.vars) hl (fun g h => ⟨h.1, h.2.1⟩)
  have hq3 : q3.leaf = true := hl.1.leaf
  have hS : SH _ [_, _, _, _, _, _, _, _, _, _, _, _] z := hS
  have hK := hS.K
  clear hk hl
  refine aq1 ?_
  refine ws_storeL 8 hS rfl rfl rfl rfl rfl rfl (by assumption) (nl rfl) ?_
  rintro z hS
  have hS : SH _ [_, _, _, _, _, _, _, _, _, _, _, _] z := hS
  have hK := hS.K
  refine aq1 ?_
  refine wvz (oL 8 hS) ?_
  refine wkz (lentStmts_ok hK.ok hy4 hy5 (hyb.keep0 StmtR.keep0 hK)) ?_
  rintro q4 z ⟨hk, hl⟩
  have hS := hS.add hk (lrC good_stmt _ 4 mkS q4 y.body) hl (fun g h => ⟨h.1, h.2.1⟩)
  have hq4 : q4.leaf = true := (by obtain ⟨u, css, e, -, -, hr, hq, -⟩ := hl; rw [e]; exact (hr.less hq).leaf)
  have hS : SH _ [_, _, _, _, _, _, _, _, _, _, _, _, _] z := hS
  have hK := hS.K
  clear hk hl
  refine aq1 ?_
  refine ws_storeL 8 hS rfl rfl rfl rfl rfl rfl (by assumption) (nl rfl) ?_
  rintro z hS
  have hS : SH _ [_, _, _, _, _, _, _, _, _, _, _, _, _] z := hS
  refine aq0 ?_
  have hS : SH s [ptC (.ptr p0 0 0) [vp, vg, va, vc, vf], ptC (.ptr p1 0 0) [.nils, .nils, .nils, .nils, .nils], ptC (.ptr p2 0 0) [r1, r2, cutA at27 0 x.arrays.length, r3, .nils], lfC F3 1 sC [.str markB] r1 x.principals, lfC F4 2 dC mkD r2 x.globals, lfC F5 2 dC mkD r3 x.channels, rowC at27 3 (x.arrays.map adC ++ [mkA]), bldC FunLF good_fun FS 6 f (x.funcs.take k), ptC (.ptr p8 0 0) [.str y.name, .int .u64 y.level, q1, q2, q3, q4], _, _, _, _] z := hS
  have hzq : ([.str y.name, .int .u64 y.level, q1, q2, q3, q4] : List AV).all AV.leaf = true := by
   simp only [List.all_cons, List.all_nil, hq1, hq2, hq3, hq4]; rfl
  refine aq1 ?_
  refine wvz (v := .agg [.str y.name, .int .u64 y.level, q1, q2, q3, q4]) (oL 8 hS) ?_
  refine ws_lit1 (c := [.str y.name, .int .u64 y.level, q1, q2, q3, q4]) hS rfl rfl rfl rfl rfl rfl rfl rfl (by decide) (by decide) rfl hzq rfl ?_
  rintro lt64 z hS hk hlt64
  have g1 := hS.get 9 rfl
  have g2 := hS.get 10 rfl
  have g3 := hS.get 11 rfl
  have g4 := hS.get 12 rfl
  have hS := hS.mrg 9 10 (by decide) rfl rfl (anyC _) trivial (fun g h => h)
  have hS := hS.mrg 9 11 (by decide) rfl rfl (anyC _) trivial (fun g h => h)
  have hS := hS.mrg 9 12 (by decide) rfl rfl (thC good_fun _ y [.str y.name, .int .u64 y.level, q1, q2, q3, q4]) ⟨q1, q2, q3, q4, rfl, g1.mono fun g h => .inl (.inl (.inl h)), g2.mono fun g h => .inl (.inl (.inr h)), g3.mono fun g h => .inl (.inr h), g4.mono good_stmt fun g h => .inr h⟩ (fun g h => h)
  refine ws_app_bld 7 9 (by decide) hS rfl rfl rfl rfl rfl rfl rfl rfl rfl rfl rfl rfl (by decide) hlt64 (hS.get 9 rfl) (by (simp only [List.length_take, maxBytes]; omega)) (by (simp only [List.length_take, maxBytes]; omega)) ?_
  rintro at65 z FS' hS
  rw [take_snoc hy] at hS
  have hS : SH s [ptC (.ptr p0 0 0) [vp, vg, va, vc, vf], ptC (.ptr p1 0 0) [.nils, .nils, .nils, .nils, .nils], ptC (.ptr p2 0 0) [r1, r2, cutA at27 0 x.arrays.length, r3, .nils], lfC F3 1 sC [.str markB] r1 x.principals, lfC F4 2 dC mkD r2 x.globals, lfC F5 2 dC mkD r3 x.channels, rowC at27 3 (x.arrays.map adC ++ [mkA]), bldC FunLF good_fun FS' 6 at65 (x.funcs.take (k + 1))] z := hS.sel [0, 1, 2, 3, 4, 5, 6, 7] rfl (by decide)
  refine aq2 ?_
  refine wad ?_
  refine aq1 ?_
  exact rn ⟨k + 1, at65, FS', F3, F4, F5, rfl, by omega, rfl, hS⟩
 obtain rfl : k = x.funcs.length := by omega
 rw [List.take_length] at hS
 refine aq2 ?_
 refine ws_lit1 hS rfl rfl rfl rfl rfl rfl rfl rfl (by decide) (by decide) rfl (by rfl) rfl ?_
 rintro lt68 z hS hk hlt68
 refine ws_app_mkB (c := mkU) 7 hS rfl rfl rfl rfl rfl rfl rfl rfl rfl rfl rfl (by decide) hlt68 (by (simp only [maxBytes]; omega)) (by (simp only [maxBytes]; omega)) ?_
 rintro at69 z FU hS
 have hS : SH _ [_, _, _, _, _, _, _, _] z := hS
 refine aq3 ?_
 refine wvz (oL 0 hS) ?_
 refine wvz (oN hsf) ?_
 obtain ⟨hune, huF, csu, hru, hlu, hXu⟩ := hS.get 7 rfl
 refine wvz (op_cut (l := none) (h := some x.funcs.length) (l' := 0) (h' := x.funcs.length) rfl rfl (optY_some rfl (natA_cast _ _)) rfl rfl rfl rfl hru rfl rfl (Nat.zero_le _) (by simp; omega)) ?_
 have hl74 : (cutA at69 0 x.funcs.length).leaf = true := (hru.less hlu).leaf
 refine aq1 ?_
 refine ws_storeL 2 hS rfl rfl rfl rfl rfl rfl hl74 (nl rfl) ?_
 rintro z hS
 have hS : SH _ [_, _, _, _, _, _, _, _] z := hS
 refine aq0 ?_
 obtain ⟨hune, huF, csu, hru, hlu, hXu⟩ := hS.get 7 rfl
 have hl6 : (cutA at27 0 x.arrays.length).leaf = true := ((hS.row 6 rfl).less (by simp)).leaf
 have hl7 : (cutA at69 0 x.funcs.length).leaf = true := ((hru.less hlu).leaf)
 have hzz : ([r1, r2, cutA at27 0 x.arrays.length, r3, cutA at69 0 x.funcs.length] : List AV).all AV.leaf = true := by
  simp only [List.all_cons, List.all_nil, hr1, hr2, hr3, hl6, hl7]; rfl
 refine aq0 ?_
 refine wvz (oL 2 hS) ?_
 refine ws_store 1 hS rfl rfl rfl rfl rfl rfl hzz (nl rfl) ?_
 rintro z hS
 have hS : SH _ [_, _, _, _, _, _, _, _] z := hS
 refine aq0 ?_
 have b3 := hS.bd 3 rfl
 have b4 := hS.bd 4 rfl
 have b5 := hS.bd 5 rfl
 have b6 := hS.bd 6 rfl
 have b7 := hS.bd 7 rfl
 obtain ⟨hune, huF, csu, hru, hlu, hXu⟩ := hS.get 7 rfl
 have hne : at27.gs ≠ [] := fun e => by
  have h1 := hS.nls 6 rfl e
  have h2 := hS.row 6 rfl
  rw [h1] at h2
  simp [Row] at h2
 exact ⟨_, res_cell rfl rfl (hS.pt 1 rfl) rfl, hS.K, _, rfl, _, _, _, _, _, rfl, (hS.get 3 rfl).mono fun g h => ⟨(b3 g h).1, (b3 g h).2, fun h => by cases h⟩, (hS.get 4 rfl).mono fun g h => ⟨(b4 g h).1, (b4 g h).2, fun h => by cases h⟩,
   ⟨⟨at27, rfl, hne, hS.row 6 rfl⟩, by rw [cutA_gs]; exact fun g h => ⟨(b6 g h).1, (b6 g h).2, fun h => by cases h⟩⟩, (hS.get 5 rfl).mono fun g h => ⟨(b5 g h).1, (b5 g h).2, fun h => by cases h⟩,
   at69, csu, rfl, hune, fun g h => ⟨(b7 g (huF g h)).1, (b7 g (huF g h)).2, fun h => by cases h⟩, hru, hlu, fun i x c h1 h2 => good_fun.mono (hXu i x c h1 h2) fun g h => ⟨(b7 g h).1, (b7 g h).2, fun h => by cases h⟩⟩
end Go.Ab
namespace Go.Ab
open Go.Proofs
end Go.Ab
namespace Go.Ab
open Go.Proofs
theorem exOr_base (w : Nat → Nat) : ∀ (l : List Nat) (lv : Nat), lv ||| exOr lv w l = exOr lv w l
 | [], lv => Nat.or_self lv
 | k :: l, lv => by
  have h := exOr_base w l (lv ||| w k)
  have e : exOr lv w (k :: l) = exOr (lv ||| w k) w l := rfl
  rw [e, ← h, ← Nat.or_assoc, ← Nat.or_assoc, Nat.or_self]
section
variable {s : SrcL} {f : Int} {y : FunL} {i : Nat}
theorem levI_ge (hf : s.fine) (hy : U64 y.level) (h : (ends1 (kinds y)).isSome = true) (hi : i < y.body.length) : wI y.level ((levI s f y i : Nat) : Int) = true := by
 have hl := levI_64 hf (f := f) hy i
 obtain ⟨n, e, hn⟩ := u64_nat hy
 rw [e, wI_nat hn hl, decide_eq_true_iff]
 obtain ⟨a, ha⟩ := iter_some h (i := i) (by rw [kinds, lmm]; omega)
 rw [levI_at ha, e, Int.toNat_natCast]
 exact exOr_base _ _ _
theorem levI_0 (hy : U64 y.level) : ((levI s f y 0 : Nat) : Int) = y.level := by
 have ha : iter1 (kinds y) 0 = some ⟨[], List.replicate (kinds y).length (-1), List.replicate (kinds y).length (-1)⟩ := rfl
 rw [levI_at ha]
 have : lvOpn (kinds y) 0 ⟨[], List.replicate (kinds y).length (-1), List.replicate (kinds y).length (-1)⟩ = [] := by
  unfold lvOpn
  split <;> rfl
 rw [this]
 exact u64_cast hy
theorem levI_last (hy : U64 y.level) (h : (ends1 (kinds y)).isSome = true) (hi : i + 1 = y.body.length) : ((levI s f y i : Nat) : Int) = y.level := by
 have hl : (kinds y).length = i + 1 := by rw [kinds, lmm]; omega
 unfold ends1 at h
 split at h
 ·cases h
 ·rename_i b hb
  split at h
  ·rename_i ho
   rw [hl] at hb
   obtain ⟨a, ha⟩ := iter_prev hb i (by omega)
   have hopn : lvOpn (kinds y) i a = [] := by
    by_cases h57 : (kinds y).getD i 0 = 5 ∨ (kinds y).getD i 0 = 7
    ·rw [opn_57 ha hb h57] at ho
     simp at ho
    ·by_cases h8 : (kinds y).getD i 0 = 8
     ·rw [lvOpn, if_pos (.inr h8), ← (opn_8 ha hb h8).2, ho]
     ·by_cases h6 : (kinds y).getD i 0 = 6
      ·have := opn_6 ha hb h6
       rw [this.2] at ho
       exact absurd ho this.1
      ·rw [lvOpn, if_neg (by omega), ← opn_same ha hb (by omega) (by omega) h8, ho]
   rw [levI_at ha, hopn]
   exact u64_cast hy
  ·cases h
theorem send_ok (hf : s.fine) {k : Nat} {st : StmtL} (h : Off (chkL s)) (hy : s.funcs[k]? = some y) (hst : y.body[i]? = some st) (h3 : st.kind = 3) (hU : U64 y.level) :
  (fN s k st.name).1 = 4 ∧ ∃ (q : Nat) (d : DeclL), (fN s k st.name).2 = q ∧ s.channels[q]? = some d ∧ wI ((levI s (k : Nat) y i : Nat) : Int) d.label = true := by
 have h0 := h.l
 have hk := (ges.1 hy).1
 have hi := (ges.1 hst).1
 have hs : Off (stmtT s k y i st) := by
  have h1 := (ord_fun h0 hy).r
  have h2 := Off.flat h1 (List.mem_range.2 hi)
  unfold stmtI at h2
  rw [hst] at h2
  exact h2
 rw [stmtT_eq] at hs
 have hU2 := hs.r.l
 unfold usesT at hU2
 have hn := hU2.l.r
 rw [nameT, if_neg (by omega), if_pos h3] at hn
 have h4 : (fN s k st.name).1 = 4 := by
  have := hn (!inZ [4] (fN s k st.name).1, ⟨72, k, i⟩) (by unfold useT; exact List.mem_cons_of_mem _ (mcs ..))
  simp only [Bool.not_eq_false'] at this
  unfold inZ at this
  have h5 := of_decide_eq_true this
  unfold idxQ at h5
  split at h5
  ·rename_i j hj
   have := List.find?_some hj
   have hm := List.mem_of_find?_eq_some hj
   have : j = 0 := by simpa using hm
   subst this
   exact (by simpa using (List.find?_some hj) : (4 : Int) = _).symm
  ·omega
 obtain ⟨q, d, e1, e2, e3⟩ := fN_4 rfl h4
 refine ⟨h4, q, d, e1, e2, ?_⟩
 have hF := h.r
 have hF1 := Off.flat hF (List.mem_range.2 hk)
 rw [flowF_at hy] at hF1
 have hF2 := Off.flat hF1 (List.mem_range.2 hi)
 rw [flowT_at hst] at hF2
 have hF3 := hF2 _ (mcs ..)
 simp only [Bool.not_eq_false'] at hF3
 rw [keptK, if_neg (by omega), if_neg (by omega), if_pos h3, wN_or, Bool.and_eq_true] at hF3
 have hd := (hf.2.2.2.1 d (mog e2)).2
 obtain ⟨n, en, hn2⟩ := u64_nat hd
 rw [en, wI_nat (levI_64 hf hU i) hn2, decide_eq_true_iff]
 have := hF3.2
 unfold wN nmL at this
 rw [e3, en, Int.toNat_natCast, decide_eq_true_iff] at this
 exact this
end
theorem termsP_up {x : List TermL} {c : List AV} (k : TermsR .leaf x c) (h : Tr Grp) : TermsR h x c := by
 obtain ⟨v, rfl, hv⟩ := k
 exact ⟨v, rfl, RowP.up hv h⟩
theorem RowR.up {α : Type} {R : Tr Grp → α → List AV → Prop} {sz : Nat} {v : AV} {xs : List α} (k : RowR .leaf sz R v xs) (h : Tr Grp) (hR : ∀ x c, R .leaf x c → R h x c) : RowR h sz R v xs := by
 obtain ⟨css, h1, h2, h3⟩ := k
 exact ⟨css, RowP.up h1 h, h2, fun i x c k1 k2 => hR _ _ (h3 i x c k1 k2)⟩
theorem stmtP_up {x : StmtL} {c : List AV} (k : StmtR .leaf x c) (h : Tr Grp) : StmtR h x c := by
 obtain ⟨vt, ve, rfl, h1, h2⟩ := k
 exact ⟨vt, ve, rfl, RowP.up h1 h, h2.up h fun x c k => termsP_up k h⟩
theorem funP_up {x : FunL} {c : List AV} (k : FunR .leaf x c) (h : Tr Grp) : FunR h x c := by
 obtain ⟨vp, vr, vv, vb, rfl, h1, h2, h3, h4⟩ := k
 exact ⟨vp, vr, vv, vb, rfl, RowP.up h1 h, RowP.up h2 h, RowP.up h3 h, h4.up h fun x c k => stmtP_up k h⟩
theorem srcP_up {x : SrcL} {c : List AV} (k : SrcP x c) (h : Tr Grp) : SrcR h x c := by
 obtain ⟨vp, vg, va, vc, vf, rfl, h1, h2, h3, h4, h5⟩ := k
 exact ⟨vp, vg, va, vc, vf, rfl, RowP.up h1 h, RowP.up h2 h, RowP.up h3 h, RowP.up h4 h, h5.up h fun x c k => funP_up k h⟩
theorem lentSource_told {s : St} {c : List AV} {x : SrcL} (hok : s.Ok) (hx : x.small) (hv : SrcP x c) :
  CallS Tryz.prog Tt Kt 11 [.agg c] s fun r s' => Keep [] s s' ∧ ∃ c', r = .agg c' ∧ SrcP x c' :=
 CallS.frz hok ((lentSource_ok hok hx (srcP_up hv _)).mono fun v z' ⟨hk, c', hr, hl⟩ => by
   obtain ⟨c0, h1, h2⟩ := src_told (E := fun g => s.ctr ≤ g ∧ g < z'.ctr) hl fun g hg => ⟨hg.1, hg.2.1⟩
   subst hr
   exact ⟨hk, .agg c0, h1, c0, rfl, h2⟩)
end Go.Ab
namespace Go.Ab
open Go.Proofs
set_option maxRecDepth 10000 in
set_option maxHeartbeats 8000000 in
theorem levels_out {s : St} {c : List AV} {x : SrcL} {f : Int} (hok : s.Ok) (hx : x.small) (hv : SrcP x c) (hf : ¬ (0 ≤ f ∧ f < x.funcs.length)) :
  CallS Tryz.prog Tt Kt 13 [.agg c, .int .i64 f] s fun r s' => Keep [] s s' ∧ r = .nils := by
 have hz := hv.leaf
 obtain ⟨vp, vg, va, vc, vf, rfl, hvp, hvg, hva, hvc, csf, hrf, hlf, hF⟩ := id hv
 obtain ⟨hl1, hl2, hl3, hl4, hl5, hsm⟩ := id hx
 have hsf : vf.slen = some x.funcs.length := by rw [hrf.slen, hlf]
 refine call_of (fn := Tryz.f13) (nt := 129) Tryz.func13 rfl rfl rfl ?_
 refine aq0 ?_
 have hS := SH.start hok
 refine aq0 ?_
 refine ws_box hS rfl rfl rfl hz ?_
 rintro p0 z hS hk
 have hS : SH _ [_] z _ := hS
 have hK := hS.K
 refine aq4 ?_
 refine w_split (i := 21) rfl (fun h21 => ?_) (fun h21 => ?_)
 ·simp only [dtt] at h21
  refine aq6 ?_
  refine wc_cond_t rfl ?_
  refine aq1 ?_
  exact ⟨_, rfl, hK, rfl⟩
 simp only [dff] at h21
 refine aq2 ?_
 refine wvz (v := vf) (oL 0 hS) ?_
 refine wvz (oN hsf) ?_
 refine aq2 ?_
 refine wc_condT rfl (fun h27 => ?_) (fun h27 => ?_)
 ·refine aq1 ?_
  exact ⟨_, rfl, hK, rfl⟩
 (simp only [dff, ge_iff_le] at h27; exfalso; omega)
set_option maxRecDepth 10000 in
set_option maxHeartbeats 8000000 in
theorem flowtypeLevels_out {s : St} {c : List AV} {x : SrcL} {f : Int} (hok : s.Ok) (hx : x.small) (_hfi : x.fine) (hv : SrcP x c) (hfo : ¬ (0 ≤ f ∧ f < x.funcs.length)) :
  CallS Tryz.prog Tt Kt 5 [.agg c, .int .i64 f] s fun r _ => r = .bool true := by
 have hz := hv.leaf
 obtain ⟨vp, vg, va, vc, vf, rfl, hvp, hvg, hva, hvc, csf, hrf, hlf, hF⟩ := id hv
 obtain ⟨hl1, hl2, hl3, hl4, hl5, hsm⟩ := id hx
 have hsf : vf.slen = some x.funcs.length := by rw [hrf.slen, hlf]
 refine call_of (fn := Tryz.f5) (nt := 163) Tryz.func5 rfl rfl rfl ?_
 refine aq0 ?_
 have hS := SH.start hok
 refine aq0 ?_
 refine ws_box hS rfl rfl rfl hz ?_
 rintro p0 z hS hk
 have hS : SH _ [_] z _ := hS
 refine aq1 ?_
 refine wkz (call_known (Q := fun r s' => Keep [] _ s' ∧ r = .bool true) rfl ⟨.refl hS.ok, rfl⟩) ?_
 rintro _ z ⟨hk, rfl⟩
 have hS := hS.mov hk
 refine aq1 ?_
 refine wc_condT rfl (fun h15 => ?_) (fun h15 => ?_)
 ·cases h15
 refine aq0 ?_
 refine wvz (v := .agg [vp, vg, va, vc, vf]) (oL 0 hS) ?_
 refine wkz (lentSource_told hS.ok hx hv) ?_
 rintro _ z ⟨hk, c1, rfl, hv1⟩
 have hS := hS.mov hk
 refine aq1 ?_
 refine wkz (levels_out hS.ok hx hv1 hfo) ?_
 rintro _ z ⟨hk, rfl⟩
 have hS := hS.mov hk
 refine aq4 ?_
 refine w_split (i := 22) rfl (fun h22 => ?_) (fun h22 => ?_)
 ·simp only [dtt] at h22
  refine aq6 ?_
  refine wc_cond_t rfl ?_
  refine aq1 ?_
  refine wvz (v := .int .i64 ((0 : Nat) : Int)) (oN rfl) ?_
  refine aq2 ?_
  exact ⟨_, rfl, rfl⟩
 simp only [dff] at h22
 refine aq2 ?_
 refine wvz (v := vf) (oL 0 hS) ?_
 refine wvz (oN hsf) ?_
 refine aq2 ?_
 refine wc_condT rfl (fun h28 => ?_) (fun h28 => ?_)
 ·refine aq1 ?_
  refine wvz (v := .int .i64 ((0 : Nat) : Int)) (oN rfl) ?_
  refine aq2 ?_
  exact ⟨_, rfl, rfl⟩
 (simp only [dff, ge_iff_le] at h28; exfalso; omega)
theorem good_chkL (s : SrcL) : GoodF (chkL s) := good_cD s _
set_option maxRecDepth 10000 in
set_option maxHeartbeats 8000000 in
theorem flowtypeLevels_in {s : St} {c : List AV} {x : SrcL} {k : Nat} {y : FunL} (hok : s.Ok) (hx : x.small) (hfi : x.fine) (hv : SrcP x c) (hy : x.funcs[k]? = some y) :
  CallS Tryz.prog Tt Kt 5 [.agg c, .int .i64 (k : Nat)] s fun r _ => r = .bool true := by
 have hz := hv.leaf
 obtain ⟨vp, vg, va, vc, vf, rfl, hvp, hvg, hva, hvc, csf, hrf, hlf, hF⟩ := id hv
 obtain ⟨hl1, hl2, hl3, hl4, hl5, hsm⟩ := id hx
 have hsf : vf.slen = some x.funcs.length := by rw [hrf.slen, hlf]
 have hkl := (ges.1 hy).1
 obtain ⟨cy, hcy⟩ : ∃ c, csf[k]? = some c := ⟨_, gee (by omega)⟩
 obtain ⟨yp, yr, yv, yb, rfl, hyp, hyr, hyv, hyb⟩ := hF k y cy hy hcy
 obtain ⟨hy1, hy2, hy3, hy4, hy5⟩ := id (hsm y (mog hy))
 have hyf := hfi.2.2.2.2 y (mog hy)
 have hsp : yp.slen = some y.params.length := by rw [hyp.slen, lmm]
 obtain ⟨csb, hbr, hbl, hbE⟩ := id hyb
 have hsb : yb.slen = some y.body.length := by rw [hbr.slen, hbl]
 have hkr : KindsR .leaf yb (kinds y) := KindsR.of hyb
 refine call_of (fn := Tryz.f5) (nt := 163) Tryz.func5 rfl rfl rfl ?_
 refine aq0 ?_
 have hS := SH.start hok
 refine aq0 ?_
 refine ws_box hS rfl rfl rfl hz ?_
 rintro p0 z hS hk
 have hS : SH _ [_] z _ := hS
 refine aq1 ?_
 refine wkz (call_known (Q := fun r s' => Keep [] _ s' ∧ r = .bool true) rfl ⟨.refl hS.ok, rfl⟩) ?_
 rintro _ z ⟨hk, rfl⟩
 have hS := hS.mov hk
 refine aq1 ?_
 refine wc_condT rfl (fun h15 => ?_) (fun h15 => ?_)
 ·cases h15
 refine aq0 ?_
 refine wvz (v := .agg [vp, vg, va, vc, vf]) (oL 0 hS) ?_
 refine wkz (lentSource_told hS.ok hx hv) ?_
 rintro _ z ⟨hk, c1, rfl, hv1⟩
 have hS := hS.mov hk
 refine aq1 ?_
 refine wkz (levels_ok hS.ok hx hfi hv1 hy) ?_
 rintro r5 z ⟨hk, hr5⟩
 have hS := hS.mov hk
 refine aq4 ?_
 refine w_split (i := 22) rfl (fun h22 => ?_) (fun h22 => ?_)
 ·simp only [dtt] at h22
  exfalso; omega
 simp only [dff] at h22
 refine aq2 ?_
 refine wvz (v := vf) (oL 0 hS) ?_
 refine wvz (oN hsf) ?_
 refine aq2 ?_
 refine wc_condT rfl (fun h28 => ?_) (fun h28 => ?_)
 ·simp only [dtt, ge_iff_le] at h28
  exfalso; omega
 simp only [dff, ge_iff_le] at h28
 refine aq1 ?_
 refine wvz (v := vf) (oL 0 hS) ?_
 refine aq1 ?_
 refine wvz (oI (RowP.up hrf _)) ?_
 refine wvz (oF (Row.pt (RowP.up hrf z.h) hcy)) ?_
 refine wvz (v := yb) (oM (Pt.fld (Row.pt (RowP.up hrf z.h) hcy) _ (nl rfl))) ?_
 refine w_call rfl rfl (op_call rfl rfl rfl rfl) (ends_ok hS.ok (by rw [kinds, lmm]; exact hy4) (hkr.up _)) ?_
 rintro r z ⟨hk, he⟩
 have hS := hS.mov hk
 obtain ⟨ea, eb, rfl, -⟩ := he.shape
 refine aq9 ?_
 refine wc_condT rfl (fun h44 => ?_) (fun h44 => ?_)
 ·simp only [Bool.not_eq_true'] at h44
  have hl0 : (levsN x (k : Nat)).length = 0 := by rw [levsN_in hy, levY_no h44]; rfl
  refine aq1 ?_
  refine wvz (v := .int .i64 ((0 : Nat) : Int)) (op_len rfl rfl rfl rfl rfl (hr5.slen.trans (by rw [lmm, hl0]))) ?_
  refine aq2 ?_
  exact ⟨_, rfl, rfl⟩
 simp only [Bool.not_eq_false'] at h44
 have hll := levs_len hy h44
 refine aq1 ?_
 refine wvz (v := .int .i64 ((y.body.length : Nat) : Int)) (op_len rfl rfl rfl rfl rfl (hr5.slen.trans (by rw [lmm, hll]))) ?_
 refine aq1 ?_
 refine wvz (v := vf) (oL 0 hS) ?_
 refine aq1 ?_
 refine wvz (oI (RowP.up hrf _)) ?_
 refine wvz (oF (Row.pt (RowP.up hrf z.h) hcy)) ?_
 refine wvz (v := yb) (oM (Pt.fld (Row.pt (RowP.up hrf z.h) hcy) _ (nl rfl))) ?_
 refine wvz (oN hsb) ?_
 refine aq1 ?_
 refine wc_condT rfl (fun h57 => ?_) (fun h57 => ?_)
 ·exfalso; simp at h57
 clear h57
 refine aq0 ?_
 refine wvz (v := .agg [vp, vg, va, vc, vf]) (oL 0 hS) ?_
 refine wkz (lentSource_told hS.ok hx hv) ?_
 rintro _ z ⟨hk, c2, rfl, hv2⟩
 have hS := hS.mov hk
 refine wkz (flow_check_ok hS.ok hx hfi hv2) ?_
 rintro _ z ⟨hk, rfl⟩
 have hS := hS.mov hk
 have hK := hS.K
 obtain ⟨b9, hb9⟩ : ∃ b, ((firstF (chkL x)).err == 0 && ((firstF (chkL x)).f == 0 && ((firstF (chkL x)).at_ == 0 && true))) = b := ⟨_, rfl⟩
 have hB : b9 = true → Off (chkL x) := by
  intro hb
  rw [hb] at hb9
  simp only [Bool.and_eq_true, beq_iff_eq] at hb9
  exact firstF_zero (good_chkL x) hb9.1
 refine aq1 ?_
 refine wvz (v := .bool b9) (op_bin rfl rfl (by rw [← hb9]; rfl)) ?_
 refine aq2 ?_
 have hS : SH s [ptC (.ptr p0 0 0) [vp, vg, va, vc, vf]] z := hS
 refine aq0 ?_
 refine wc_loop_at (fun jj m z => ∃ i : Nat, jj = y.body.length - i ∧ i ≤ y.body.length ∧ m = [(1, .int .i64 (k : Nat)), (2, .ptr p0 0 0), (5, r5), (9, .bool b9), (10, .int .i64 (i : Nat))] ∧ SH s [ptC (.ptr p0 0 0) [vp, vg, va, vc, vf]] z) y.body.length
  [(1, .int .i64 (k : Nat)), (2, .ptr p0 0 0), (5, r5), (9, .bool b9), (10, .int .i64 ((0 : Nat) : Int))] (scn rfl (scn rfl (scn rfl (scn rfl (scn rfl (Sub.nil _)))))) ⟨0, by simp, by simp, rfl, hS⟩ ?_
 clear hS hK
 rintro jj m z ⟨i, rfl, hi, rfl, hS⟩
 have hK := hS.K
 refine aq2 ?_
 refine wvz (v := .int .i64 ((y.body.length : Nat) : Int)) (op_len rfl rfl rfl rfl rfl (hr5.slen.trans (by rw [lmm, hll]))) ?_
 refine aq1 ?_
 refine wc_condT rfl (fun h66 => ?_) (fun h66 => ?_)
 ·simp only [dtt] at h66
  have hib : i < y.body.length := by omega
  obtain ⟨st, hst⟩ : ∃ st, y.body[i]? = some st := ⟨_, gee hib⟩
  obtain ⟨cst, hcst⟩ : ∃ c, csb[i]? = some c := ⟨_, gee (by omega)⟩
  have hsr := hbE i st cst hst hcst
  obtain ⟨vt, ve, rfl, -⟩ := id hsr
  have hsz := hsr.leafs
  have hli := levs_at hy h44 hib
  have hge := levI_ge (f := (k : Nat)) hfi hyf.2.1 h44 hib
  unfold wI at hge
  rw [beq_iff_eq] at hge
  refine aq1 ?_
  refine wvz (v := vf) (oL 0 hS) ?_
  refine aq1 ?_
  refine wvz (oI (RowP.up hrf _)) ?_
  refine wvz (oF (Row.pt (RowP.up hrf z.h) hcy)) ?_
  refine wvz (v := yb) (oM (Pt.fld (Row.pt (RowP.up hrf z.h) hcy) _ (nl rfl))) ?_
  refine aq1 ?_
  refine wvz (oI (RowP.up hbr _)) ?_
  refine wvz (v := .agg [.int .i64 st.kind, .str st.name, vt, ve]) (oM (Row.pt (RowP.up hbr _) hcst)) ?_
  refine ws_alloc hS rfl rfl rfl rfl ?_
  rintro p11 z hS hk
  have hS : SH _ [_, _] z _ := hS
  have hK := hS.K
  refine ws_store 1 hS rfl rfl rfl rfl rfl rfl (by assumption) (nl rfl) ?_
  rintro z hS
  have hS : SH _ [_, _] z _ := hS
  refine aq0 ?_
  refine wc_draw (fun _ => True) (by kernel_rfl) rfl ?_
  refine wdv (op_fldP rfl rfl rfl rfl (by decide)) ?_
  refine wdv (v := vf) (oM (Pt.bare ((hS.pt 0 rfl).at (nl rfl)))) ?_
  refine aq1 ?_
  refine wdv (oI (RowP.up hrf _)) ?_
  refine wdv (oF (Row.pt (RowP.up hrf _) hcy)) ?_
  refine wdv (v := .int .u64 y.level) (oM (Pt.fld (Row.pt (RowP.up hrf _) hcy) _ (nl rfl))) ?_
  refine aq2 ?_
  refine wdv (op_idxF rfl rfl (natA_cast _ _) rfl rfl rfl rfl (RowP.up hr5 _) (by rw [hll]; omega)) ?_
  refine wdv (v := .int .u64 ((levI x (k : Nat) y i : Nat) : Int)) (oM (Row.mk_pt (RowP.up hr5 _) hli)) ?_
  refine aq3 ?_
  refine wd_split (i := 90) rfl (fun h90 => ?_) (fun h90 => ?_)
  ·exfalso
   rw [bne_iff_ne] at h90
   exact h90 hge
  refine aq3 ?_
  refine wd_split (i := 93) rfl (fun h93 => ?_) (fun h93 => ?_)
  ·simp only [beq_iff_eq] at h93
   have hi0 : i = 0 := by omega
   refine aq2 ?_
   refine wdv (op_idxF rfl rfl (natA_cast _ _) rfl rfl rfl rfl (RowP.up hr5 _) (by rw [hll]; omega)) ?_
   refine wdv (v := .int .u64 ((levI x (k : Nat) y i : Nat) : Int)) (oM (Row.mk_pt (RowP.up hr5 _) hli)) ?_
   refine wdv (op_fldP rfl rfl rfl rfl (by decide)) ?_
   refine wdv (v := vf) (oM (Pt.bare ((hS.pt 0 rfl).at (nl rfl)))) ?_
   refine aq1 ?_
   refine wdv (oI (RowP.up hrf _)) ?_
   refine wdv (oF (Row.pt (RowP.up hrf _) hcy)) ?_
   refine wdv (v := .int .u64 y.level) (oM (Pt.fld (Row.pt (RowP.up hrf _) hcy) _ (nl rfl))) ?_
   refine aq4 ?_
   refine wd_split (i := 107) rfl (fun h107 => ?_) (fun h107 => ?_)
   ·exfalso
    (rw [bne_iff_ne, hi0] at h107; exact h107 (levI_0 hyf.2.1))
   refine aq2 ?_
   refine wdv (v := .int .i64 ((y.body.length : Nat) : Int)) (op_len rfl rfl rfl rfl rfl (hr5.slen.trans (by rw [lmm, hll]))) ?_
   refine wdv (v := .int .i64 ((y.body.length : Nat) - 1 : Int)) (op_subE rfl rfl (by unfold In64; omega) rfl) ?_
   refine aq2 ?_
   refine wd_split (i := 113) rfl (fun h113 => ?_) (fun h113 => ?_)
   ·simp only [beq_iff_eq] at h113
    refine aq2 ?_
    refine wdv (op_idxF rfl rfl (natA_cast _ _) rfl rfl rfl rfl (RowP.up hr5 _) (by rw [hll]; omega)) ?_
    refine wdv (v := .int .u64 ((levI x (k : Nat) y i : Nat) : Int)) (oM (Row.mk_pt (RowP.up hr5 _) hli)) ?_
    refine wdv (op_fldP rfl rfl rfl rfl (by decide)) ?_
    refine wdv (v := vf) (oM (Pt.bare ((hS.pt 0 rfl).at (nl rfl)))) ?_
    refine aq1 ?_
    refine wdv (oI (RowP.up hrf _)) ?_
    refine wdv (oF (Row.pt (RowP.up hrf _) hcy)) ?_
    refine wdv (v := .int .u64 y.level) (oM (Pt.fld (Row.pt (RowP.up hrf _) hcy) _ (nl rfl))) ?_
    refine aq3 ?_
    refine wc_condT rfl (fun h126 => ?_) (fun h126 => ?_)
    ·exfalso
     (rw [bne_iff_ne] at h126; exact h126 (levI_last hyf.2.1 h44 (by omega)))
    refine aq2 ?_
    refine w_split (i := 128) rfl (fun h128 => ?_) (fun h128 => ?_)
    ·have hOff := hB h128
     refine aq1 ?_
     refine wvz (v := .int .i64 st.kind) (oL 1 hS) ?_
     refine aq2 ?_
     refine wc_condT rfl (fun h132 => ?_) (fun h132 => ?_)
     ·refine aq0 ?_
      simp only [beq_iff_eq] at h132
      obtain ⟨h4, q, d, e1, e2, hwd⟩ := send_ok (i := i) hfi hOff hy hst h132 hyf.2.1
      unfold wI at hwd
      rw [beq_iff_eq] at hwd
      refine aq0 ?_
      refine wvz (v := .agg [vp, vg, va, vc, vf]) (oL 0 hS) ?_
      refine aq2 ?_
      refine wvz (v := .str st.name) (oL 1 hS) ?_
      refine wkz (find_ok hS.ok hx hv) ?_
      rintro _ z ⟨hk, rfl⟩
      have hS := hS.mov hk
      refine aq3 ?_
      refine ws_alloc hS rfl rfl rfl rfl ?_
      rintro p12 z hS hk
      have hS : SH _ [_, _, _] z _ := hS
      refine ws_store 2 hS rfl rfl rfl rfl rfl rfl (by rfl) (nl rfl) ?_
      rintro z hS
      have hS : SH _ [_, _, _] z _ := hS
      refine aq1 ?_
      refine wc_draw (fun _ => True) (by kernel_rfl) rfl ?_
      refine aq3 ?_
      refine wd_split (i := 143) rfl (fun h143 => ?_) (fun h143 => ?_)
      ·exfalso
       simp [h4] at h143
      skip
      refine wdv (op_fldP rfl rfl rfl rfl (by decide)) ?_
      refine wdv (v := .int .i64 (fN x (k : Nat) st.name).1) (oM (Pt.bare ((hS.pt 2 rfl).at (nl rfl)))) ?_
      refine aq3 ?_
      refine wd_split (i := 148) rfl (fun h148 => ?_) (fun h148 => ?_)
      ·exfalso
       simp [h4] at h148
      refine aq2 ?_
      refine wdv (op_idxF rfl rfl (natA_cast _ _) rfl rfl rfl rfl (RowP.up hr5 _) (by rw [hll]; omega)) ?_
      refine wdv (v := .int .u64 ((levI x (k : Nat) y i : Nat) : Int)) (oM (Row.mk_pt (RowP.up hr5 _) hli)) ?_
      refine wdv (op_fldP rfl rfl rfl rfl (by decide)) ?_
      refine wdv (v := vc) (oM (Pt.bare ((hS.pt 0 rfl).at (nl rfl)))) ?_
      refine wdv (op_fldP rfl rfl rfl rfl (by decide)) ?_
      refine wdv (v := .int .i64 (q : Nat)) (op_load rfl rfl (Pt.bare ((hS.pt 2 rfl).at (nl rfl))) (congrArg (fun v => some (AV.int .i64 v)) e1)) ?_
      refine wdv (op_idxF rfl rfl (natA_cast _ _) rfl rfl rfl rfl (RowP.up hvc _) (by have := (ges.1 e2).1; omega)) ?_
      refine wdv (oF (Row.mk_pt (RowP.up hvc _) e2)) ?_
      refine wdv (v := .int .u64 d.label) (oM (Pt.fld (Row.mk_pt (RowP.up hvc _) e2) _ (nl rfl))) ?_
      refine aq3 ?_
      refine wc_condT rfl (fun h162 => ?_) (fun h162 => ?_)
      ·exfalso
       rw [bne_iff_ne] at h162
       exact h162 hwd
      refine aq1 ?_
      refine wad ?_
      refine aq1 ?_
      have hS : SH s [ptC (.ptr p0 0 0) [vp, vg, va, vc, vf]] z := hS.sub (.cons_cons _ (.cons _ (.cons _ (.refl _))))
      exact rn ⟨i + 1, rfl, by omega, rfl, hS⟩
     refine aq1 ?_
     refine wad ?_
     refine aq1 ?_
     have hS : SH s [ptC (.ptr p0 0 0) [vp, vg, va, vc, vf]] z := hS.sub (.cons_cons _ (.cons _ (.refl _)))
     exact rn ⟨i + 1, rfl, by omega, rfl, hS⟩
    refine aq4 ?_
    refine wc_cond_f rfl ?_
    refine aq1 ?_
    refine wad ?_
    refine aq1 ?_
    have hS : SH s [ptC (.ptr p0 0 0) [vp, vg, va, vc, vf]] z := hS.sub (.cons_cons _ (.cons _ (.refl _)))
    exact rn ⟨i + 1, rfl, by omega, rfl, hS⟩
   simp only [bff, ne_eq] at h113
   refine aq12 ?_
   refine aq1 ?_
   refine wc_cond_f rfl ?_
   refine aq2 ?_
   refine w_split (i := 128) rfl (fun h128 => ?_) (fun h128 => ?_)
   ·have hOff := hB h128
    refine aq1 ?_
    refine wvz (v := .int .i64 st.kind) (oL 1 hS) ?_
    refine aq2 ?_
    refine wc_condT rfl (fun h132 => ?_) (fun h132 => ?_)
    ·refine aq0 ?_
     simp only [beq_iff_eq] at h132
     obtain ⟨h4, q, d, e1, e2, hwd⟩ := send_ok (i := i) hfi hOff hy hst h132 hyf.2.1
     unfold wI at hwd
     rw [beq_iff_eq] at hwd
     refine aq0 ?_
     refine wvz (v := .agg [vp, vg, va, vc, vf]) (oL 0 hS) ?_
     refine aq2 ?_
     refine wvz (v := .str st.name) (oL 1 hS) ?_
     refine wkz (find_ok hS.ok hx hv) ?_
     rintro _ z ⟨hk, rfl⟩
     have hS := hS.mov hk
     refine aq3 ?_
     refine ws_alloc hS rfl rfl rfl rfl ?_
     rintro p12 z hS hk
     have hS : SH _ [_, _, _] z _ := hS
     refine ws_store 2 hS rfl rfl rfl rfl rfl rfl (by rfl) (nl rfl) ?_
     rintro z hS
     have hS : SH _ [_, _, _] z _ := hS
     refine aq1 ?_
     refine wc_draw (fun _ => True) (by kernel_rfl) rfl ?_
     refine aq3 ?_
     refine wd_split (i := 143) rfl (fun h143 => ?_) (fun h143 => ?_)
     ·exfalso
      simp [h4] at h143
     skip
     refine wdv (op_fldP rfl rfl rfl rfl (by decide)) ?_
     refine wdv (v := .int .i64 (fN x (k : Nat) st.name).1) (oM (Pt.bare ((hS.pt 2 rfl).at (nl rfl)))) ?_
     refine aq3 ?_
     refine wd_split (i := 148) rfl (fun h148 => ?_) (fun h148 => ?_)
     ·exfalso
      simp [h4] at h148
     refine aq2 ?_
     refine wdv (op_idxF rfl rfl (natA_cast _ _) rfl rfl rfl rfl (RowP.up hr5 _) (by rw [hll]; omega)) ?_
     refine wdv (v := .int .u64 ((levI x (k : Nat) y i : Nat) : Int)) (oM (Row.mk_pt (RowP.up hr5 _) hli)) ?_
     refine wdv (op_fldP rfl rfl rfl rfl (by decide)) ?_
     refine wdv (v := vc) (oM (Pt.bare ((hS.pt 0 rfl).at (nl rfl)))) ?_
     refine wdv (op_fldP rfl rfl rfl rfl (by decide)) ?_
     refine wdv (v := .int .i64 (q : Nat)) (op_load rfl rfl (Pt.bare ((hS.pt 2 rfl).at (nl rfl))) (congrArg (fun v => some (AV.int .i64 v)) e1)) ?_
     refine wdv (op_idxF rfl rfl (natA_cast _ _) rfl rfl rfl rfl (RowP.up hvc _) (by have := (ges.1 e2).1; omega)) ?_
     refine wdv (oF (Row.mk_pt (RowP.up hvc _) e2)) ?_
     refine wdv (v := .int .u64 d.label) (oM (Pt.fld (Row.mk_pt (RowP.up hvc _) e2) _ (nl rfl))) ?_
     refine aq3 ?_
     refine wc_condT rfl (fun h162 => ?_) (fun h162 => ?_)
     ·exfalso
      rw [bne_iff_ne] at h162
      exact h162 hwd
     refine aq1 ?_
     refine wad ?_
     refine aq1 ?_
     have hS : SH s [ptC (.ptr p0 0 0) [vp, vg, va, vc, vf]] z := hS.sub (.cons_cons _ (.cons _ (.cons _ (.refl _))))
     exact rn ⟨i + 1, rfl, by omega, rfl, hS⟩
    refine aq1 ?_
    refine wad ?_
    refine aq1 ?_
    have hS : SH s [ptC (.ptr p0 0 0) [vp, vg, va, vc, vf]] z := hS.sub (.cons_cons _ (.cons _ (.refl _)))
    exact rn ⟨i + 1, rfl, by omega, rfl, hS⟩
   refine aq4 ?_
   refine wc_cond_f rfl ?_
   refine aq1 ?_
   refine wad ?_
   refine aq1 ?_
   have hS : SH s [ptC (.ptr p0 0 0) [vp, vg, va, vc, vf]] z := hS.sub (.cons_cons _ (.cons _ (.refl _)))
   exact rn ⟨i + 1, rfl, by omega, rfl, hS⟩
  simp only [bff, ne_eq] at h93
  refine aq12 ?_
  refine aq4 ?_
  refine wdv (v := .int .i64 ((y.body.length : Nat) : Int)) (op_len rfl rfl rfl rfl rfl (hr5.slen.trans (by rw [lmm, hll]))) ?_
  refine wdv (v := .int .i64 ((y.body.length : Nat) - 1 : Int)) (op_subE rfl rfl (by unfold In64; omega) rfl) ?_
  refine aq2 ?_
  refine wd_split (i := 113) rfl (fun h113 => ?_) (fun h113 => ?_)
  ·simp only [beq_iff_eq] at h113
   refine aq2 ?_
   refine wdv (op_idxF rfl rfl (natA_cast _ _) rfl rfl rfl rfl (RowP.up hr5 _) (by rw [hll]; omega)) ?_
   refine wdv (v := .int .u64 ((levI x (k : Nat) y i : Nat) : Int)) (oM (Row.mk_pt (RowP.up hr5 _) hli)) ?_
   refine wdv (op_fldP rfl rfl rfl rfl (by decide)) ?_
   refine wdv (v := vf) (oM (Pt.bare ((hS.pt 0 rfl).at (nl rfl)))) ?_
   refine aq1 ?_
   refine wdv (oI (RowP.up hrf _)) ?_
   refine wdv (oF (Row.pt (RowP.up hrf _) hcy)) ?_
   refine wdv (v := .int .u64 y.level) (oM (Pt.fld (Row.pt (RowP.up hrf _) hcy) _ (nl rfl))) ?_
   refine aq3 ?_
   refine wc_condT rfl (fun h126 => ?_) (fun h126 => ?_)
   ·exfalso
    (rw [bne_iff_ne] at h126; exact h126 (levI_last hyf.2.1 h44 (by omega)))
   refine aq2 ?_
   refine w_split (i := 128) rfl (fun h128 => ?_) (fun h128 => ?_)
   ·have hOff := hB h128
    refine aq1 ?_
    refine wvz (v := .int .i64 st.kind) (oL 1 hS) ?_
    refine aq2 ?_
    refine wc_condT rfl (fun h132 => ?_) (fun h132 => ?_)
    ·refine aq0 ?_
     simp only [beq_iff_eq] at h132
     obtain ⟨h4, q, d, e1, e2, hwd⟩ := send_ok (i := i) hfi hOff hy hst h132 hyf.2.1
     unfold wI at hwd
     rw [beq_iff_eq] at hwd
     refine aq0 ?_
     refine wvz (v := .agg [vp, vg, va, vc, vf]) (oL 0 hS) ?_
     refine aq2 ?_
     refine wvz (v := .str st.name) (oL 1 hS) ?_
     refine wkz (find_ok hS.ok hx hv) ?_
     rintro _ z ⟨hk, rfl⟩
     have hS := hS.mov hk
     refine aq3 ?_
     refine ws_alloc hS rfl rfl rfl rfl ?_
     rintro p12 z hS hk
     have hS : SH _ [_, _, _] z _ := hS
     refine ws_store 2 hS rfl rfl rfl rfl rfl rfl (by rfl) (nl rfl) ?_
     rintro z hS
     have hS : SH _ [_, _, _] z _ := hS
     refine aq1 ?_
     refine wc_draw (fun _ => True) (by kernel_rfl) rfl ?_
     refine aq3 ?_
     refine wd_split (i := 143) rfl (fun h143 => ?_) (fun h143 => ?_)
     ·exfalso
      simp [h4] at h143
     skip
     refine wdv (op_fldP rfl rfl rfl rfl (by decide)) ?_
     refine wdv (v := .int .i64 (fN x (k : Nat) st.name).1) (oM (Pt.bare ((hS.pt 2 rfl).at (nl rfl)))) ?_
     refine aq3 ?_
     refine wd_split (i := 148) rfl (fun h148 => ?_) (fun h148 => ?_)
     ·exfalso
      simp [h4] at h148
     refine aq2 ?_
     refine wdv (op_idxF rfl rfl (natA_cast _ _) rfl rfl rfl rfl (RowP.up hr5 _) (by rw [hll]; omega)) ?_
     refine wdv (v := .int .u64 ((levI x (k : Nat) y i : Nat) : Int)) (oM (Row.mk_pt (RowP.up hr5 _) hli)) ?_
     refine wdv (op_fldP rfl rfl rfl rfl (by decide)) ?_
     refine wdv (v := vc) (oM (Pt.bare ((hS.pt 0 rfl).at (nl rfl)))) ?_
     refine wdv (op_fldP rfl rfl rfl rfl (by decide)) ?_
     refine wdv (v := .int .i64 (q : Nat)) (op_load rfl rfl (Pt.bare ((hS.pt 2 rfl).at (nl rfl))) (congrArg (fun v => some (AV.int .i64 v)) e1)) ?_
     refine wdv (op_idxF rfl rfl (natA_cast _ _) rfl rfl rfl rfl (RowP.up hvc _) (by have := (ges.1 e2).1; omega)) ?_
     refine wdv (oF (Row.mk_pt (RowP.up hvc _) e2)) ?_
     refine wdv (v := .int .u64 d.label) (oM (Pt.fld (Row.mk_pt (RowP.up hvc _) e2) _ (nl rfl))) ?_
     refine aq3 ?_
     refine wc_condT rfl (fun h162 => ?_) (fun h162 => ?_)
     ·exfalso
      rw [bne_iff_ne] at h162
      exact h162 hwd
     refine aq1 ?_
     refine wad ?_
     refine aq1 ?_
     have hS : SH s [ptC (.ptr p0 0 0) [vp, vg, va, vc, vf]] z := hS.sub (.cons_cons _ (.cons _ (.cons _ (.refl _))))
     exact rn ⟨i + 1, rfl, by omega, rfl, hS⟩
    refine aq1 ?_
    refine wad ?_
    refine aq1 ?_
    have hS : SH s [ptC (.ptr p0 0 0) [vp, vg, va, vc, vf]] z := hS.sub (.cons_cons _ (.cons _ (.refl _)))
    exact rn ⟨i + 1, rfl, by omega, rfl, hS⟩
   refine aq4 ?_
   refine wc_cond_f rfl ?_
   refine aq1 ?_
   refine wad ?_
   refine aq1 ?_
   have hS : SH s [ptC (.ptr p0 0 0) [vp, vg, va, vc, vf]] z := hS.sub (.cons_cons _ (.cons _ (.refl _)))
   exact rn ⟨i + 1, rfl, by omega, rfl, hS⟩
  simp only [bff, ne_eq] at h113
  refine aq12 ?_
  refine aq1 ?_
  refine wc_cond_f rfl ?_
  refine aq2 ?_
  refine w_split (i := 128) rfl (fun h128 => ?_) (fun h128 => ?_)
  ·have hOff := hB h128
   refine aq1 ?_
   refine wvz (v := .int .i64 st.kind) (oL 1 hS) ?_
   refine aq2 ?_
   refine wc_condT rfl (fun h132 => ?_) (fun h132 => ?_)
   ·refine aq0 ?_
    simp only [beq_iff_eq] at h132
    obtain ⟨h4, q, d, e1, e2, hwd⟩ := send_ok (i := i) hfi hOff hy hst h132 hyf.2.1
    unfold wI at hwd
    rw [beq_iff_eq] at hwd
    refine aq0 ?_
    refine wvz (v := .agg [vp, vg, va, vc, vf]) (oL 0 hS) ?_
    refine aq2 ?_
    refine wvz (v := .str st.name) (oL 1 hS) ?_
    refine wkz (find_ok hS.ok hx hv) ?_
    rintro _ z ⟨hk, rfl⟩
    have hS := hS.mov hk
    refine aq3 ?_
    refine ws_alloc hS rfl rfl rfl rfl ?_
    rintro p12 z hS hk
    have hS : SH _ [_, _, _] z _ := hS
    refine ws_store 2 hS rfl rfl rfl rfl rfl rfl (by rfl) (nl rfl) ?_
    rintro z hS
    have hS : SH _ [_, _, _] z _ := hS
    refine aq1 ?_
    refine wc_draw (fun _ => True) (by kernel_rfl) rfl ?_
    refine aq3 ?_
    refine wd_split (i := 143) rfl (fun h143 => ?_) (fun h143 => ?_)
    ·exfalso
     simp [h4] at h143
    skip
    refine wdv (op_fldP rfl rfl rfl rfl (by decide)) ?_
    refine wdv (v := .int .i64 (fN x (k : Nat) st.name).1) (oM (Pt.bare ((hS.pt 2 rfl).at (nl rfl)))) ?_
    refine aq3 ?_
    refine wd_split (i := 148) rfl (fun h148 => ?_) (fun h148 => ?_)
    ·exfalso
     simp [h4] at h148
    refine aq2 ?_
    refine wdv (op_idxF rfl rfl (natA_cast _ _) rfl rfl rfl rfl (RowP.up hr5 _) (by rw [hll]; omega)) ?_
    refine wdv (v := .int .u64 ((levI x (k : Nat) y i : Nat) : Int)) (oM (Row.mk_pt (RowP.up hr5 _) hli)) ?_
    refine wdv (op_fldP rfl rfl rfl rfl (by decide)) ?_
    refine wdv (v := vc) (oM (Pt.bare ((hS.pt 0 rfl).at (nl rfl)))) ?_
    refine wdv (op_fldP rfl rfl rfl rfl (by decide)) ?_
    refine wdv (v := .int .i64 (q : Nat)) (op_load rfl rfl (Pt.bare ((hS.pt 2 rfl).at (nl rfl))) (congrArg (fun v => some (AV.int .i64 v)) e1)) ?_
    refine wdv (op_idxF rfl rfl (natA_cast _ _) rfl rfl rfl rfl (RowP.up hvc _) (by have := (ges.1 e2).1; omega)) ?_
    refine wdv (oF (Row.mk_pt (RowP.up hvc _) e2)) ?_
    refine wdv (v := .int .u64 d.label) (oM (Pt.fld (Row.mk_pt (RowP.up hvc _) e2) _ (nl rfl))) ?_
    refine aq3 ?_
    refine wc_condT rfl (fun h162 => ?_) (fun h162 => ?_)
    ·exfalso
     rw [bne_iff_ne] at h162
     exact h162 hwd
    refine aq1 ?_
    refine wad ?_
    refine aq1 ?_
    have hS : SH s [ptC (.ptr p0 0 0) [vp, vg, va, vc, vf]] z := hS.sub (.cons_cons _ (.cons _ (.cons _ (.refl _))))
    exact rn ⟨i + 1, rfl, by omega, rfl, hS⟩
   refine aq1 ?_
   refine wad ?_
   refine aq1 ?_
   have hS : SH s [ptC (.ptr p0 0 0) [vp, vg, va, vc, vf]] z := hS.sub (.cons_cons _ (.cons _ (.refl _)))
   exact rn ⟨i + 1, rfl, by omega, rfl, hS⟩
  refine aq4 ?_
  refine wc_cond_f rfl ?_
  refine aq1 ?_
  refine wad ?_
  refine aq1 ?_
  have hS : SH s [ptC (.ptr p0 0 0) [vp, vg, va, vc, vf]] z := hS.sub (.cons_cons _ (.cons _ (.refl _)))
  exact rn ⟨i + 1, rfl, by omega, rfl, hS⟩
 refine aq1 ?_
 exact ⟨_, rfl, rfl⟩
-- unused hook: nmt2
end Go.Ab
namespace Go.Ab
def tiles (P : Program) : Nat → List Field → Nat → Bool
 | k, [], n => k == n
 | k, f :: r, n => f.offset == k && tiles P (k + P.cellsOf f.type) r n
def Plain (P : Program) : Nat → TypeId → Bool
 | 0, _ => false
 | n + 1, t => match P.underlying t with
  | some .bool | some (.int _) | some .string => true
  | some (.slice e) => P.cellsOf e > 0 && Plain P n e
  | some (.struct fs) => tiles P 0 fs.toList (P.cellsOf t) && fs.toList.all fun f => Plain P n f.type
  | _ => false
end Go.Ab
namespace Go.Ab
def packE {H : Type} (d : DataW H) (cs : List AV) : AV := match d with
 | .agg _ => .agg cs
 | _ => cs.headD .undef
mutual
def avs {H : Type} : DataW H → List AV
 | .lit (.int k n) => [.int k n]
 | .lit (.bool b) => [.bool b]
 | .lit (.string bs) => [.str ⟨bs.toArray⟩]
 | .nil => [.ro true []]
 | .slice es _ => [.ro false (elts es)]
 | .agg ds => avsAll ds
 | _ => [.undef]
def avsAll {H : Type} : List (DataW H) → List AV
 | [] => []
 | d :: r => avs d ++ avsAll r
def elts {H : Type} : List (DataW H) → List AV
 | [] => []
 | d :: r => packE d (avs d) :: elts r
end
theorem elts_map {H : Type} : ∀ (l : List (DataW H)), elts l = l.map fun d => packE d (avs d)
 | [] => by rw [elts]; rfl
 | d :: r => by rw [elts, elts_map r]; rfl
def HasTy {H : Type} (P : Program) : Nat → TypeId → DataW H → Prop
 | 0, _, _ => False
 | n + 1, t, d => match P.underlying t with
  | some .bool => ∃ b, d = .lit (.bool b)
  | some (.int k) => ∃ m, d = .lit (.int k m) ∧ (Lit.int k m).wf = true
  | some .string => ∃ bs, d = .lit (.string bs)
  | some (.slice e) => d = .nil ∨ ∃ es sp, d = .slice es sp ∧ ∀ x ∈ es, HasTy P n e x
  | some (.struct fs) => ∃ ds, d = .agg ds ∧ ds.length = fs.toList.length ∧ ∀ (i : Nat) (f : Field) (x : DataW H), fs.toList[i]? = some f → ds[i]? = some x → HasTy P n f.type x
  | _ => False
theorem HasTy.pack {H : Type} {P : Program} {n : Nat} {t : TypeId} {d : DataW H} (h : HasTy P n t d) : (packE d (avs d)).cells = avs d := by
 cases n with
 | zero => exact h.elim
 | succ n =>
  unfold HasTy at h
  split at h
  ·obtain ⟨b, rfl⟩ := h; simp [avs, packE, AV.cells]
  ·obtain ⟨b, rfl, -⟩ := h; simp [avs, packE, AV.cells]
  ·obtain ⟨b, rfl⟩ := h; simp [avs, packE, AV.cells]
  ·rcases h with rfl | ⟨es, sp, rfl, -⟩ <;> simp [avs, packE, AV.cells]
  ·obtain ⟨ds, rfl, -⟩ := h; simp [avs, packE, AV.cells]
  ·exact h.elim
theorem mapM_some' {α β : Type} {f : α → Option β} : ∀ {l : List α} {r : List β}, l.mapM f = some r → l.length = r.length ∧ ∀ (i : Nat) (x : α) (y : β), l[i]? = some x → r[i]? = some y → f x = some y
 | [], r, h => by simp at h; subst h; exact ⟨rfl, fun i x y h => by simp at h⟩
 | a :: l, r, h => by
  rw [List.mapM_cons] at h
  cases ha : f a with
  | none => simp [ha] at h
  | some b =>
   cases hl : l.mapM f with
   | none => simp [ha, hl] at h
   | some r' =>
    simp [ha, hl] at h
    subst h
    obtain ⟨h1, h2⟩ := mapM_some' hl
    refine ⟨by simp [h1], fun i x y hx hy => ?_⟩
    cases i with
    | zero => simp at hx hy; subst hx; subst hy; exact ha
    | succ i => exact h2 i x y (by simpa using hx) (by simpa using hy)
section
variable {H : Type} {enc : TypeId × Value → H} {P : Program} {w : World} {spare : Nat → Bool} {held : Bool} {ρ : Loc}
def RdOk (w : World) (P : Program) (ρ : Loc) (n : Nat) (t : TypeId) (cs : List Value) (d : DataW H) : Prop :=
 HasTy P n t d ∧ (avs d).length = cs.length ∧ CR w w.heap.size ρ (avs d) cs ∧ (avs d).all AV.leaf = true
theorem fields_read {n : Nat} (ih : ∀ t cs x, DataW.trod enc P w 0 spare held n t cs = some x → ∀ m, Plain P m t = true → RdOk w P ρ n t cs x.1) {m : Nat} {cs : List Value} :
  ∀ (fs : List Field) (k N : Nat) (xs : List (DataW H × List MemPlace)), N = cs.length → xs.length = fs.length → (∀ (i : Nat) (f : Field), fs[i]? = some f → DataW.trod enc P w 0 spare held n f.type ((cs.drop f.offset).take (P.cellsOf f.type)) = xs[i]?) → tiles P k fs N = true → (∀ f ∈ fs, Plain P m f.type = true) →
   (avsAll (xs.map (·.1))).length = (cs.drop k).length ∧ CR w w.heap.size ρ (avsAll (xs.map (·.1))) (cs.drop k) ∧ (avsAll (xs.map (·.1))).all AV.leaf = true ∧ ∀ (i : Nat) (f : Field) (x : DataW H × List MemPlace), fs[i]? = some f → xs[i]? = some x → HasTy P n f.type x.1
 | [], k, N, xs, hN, hl, h, ht, hp => by
  have : xs = [] := List.eq_nil_of_length_eq_zero hl
  subst this
  simp only [tiles, beq_iff_eq] at ht
  subst ht hN
  simp [avsAll, CR.nil]
 | f :: r, k, N, xs, hN, hl, h, ht, hp => by
  cases xs with
  | nil => simp at hl
  | cons b ys =>
   simp only [tiles, Bool.and_eq_true, beq_iff_eq] at ht
   obtain ⟨hoff, ht⟩ := ht
   have h0 := h 0 f rfl
   simp only [List.getElem?_cons_zero] at h0
   obtain ⟨h5, h1, h2, h6⟩ := ih _ _ b h0 m (hp f (mcs ..))
   obtain ⟨h3, h4, h7, h8⟩ := fields_read ih r (k + P.cellsOf f.type) N ys hN (by simpa using hl) (fun i g hg => by have := h (i + 1) g (by simpa using hg); simpa using this) ht (fun g hg => hp g (List.mem_cons_of_mem _ hg))
   rw [hoff] at h1 h2
   have e : cs.drop k = (cs.drop k).take (P.cellsOf f.type) ++ cs.drop (k + P.cellsOf f.type) := by
    rw [← List.drop_drop, List.take_append_drop]
   rw [List.map_cons, avsAll, e]
   refine ⟨by rw [laa, laa, h1, h3], h2.append h4, by rw [List.all_append, h6, h7]; rfl, fun i g x hg hx => ?_⟩
   cases i with
   | zero => simp at hg hx; subst hg; subst hx; exact h5
   | succ i => exact h8 i g x (by simpa using hg) (by simpa using hx)
theorem cells_at {w : World} {base : Nat} {a : Addr} {n : Nat} {cs : List Value} (h : w.cells? base a n = some cs) : cs.length = n ∧ ∀ (k : Nat) (v : Value), cs[k]? = some v → w.cell? (a.add k) = some v := by
 unfold World.cells? at h
 split at h
 ·obtain ⟨h1, h2⟩ := mapM_some' h
  refine ⟨by rw [← h1, List.length_range], fun k v hv => ?_⟩
  have hk : k < n := by
   have := (ges.1 hv).1
   rw [← h1, List.length_range] at this; exact this
  exact h2 k k v (by rw [List.getElem?_range hk]) hv
 ·cases h
theorem spot_none {w : World} {a : Addr} {v : Value} (h : w.cell? a = some v) : a.spot = none ∧ a.block < w.heap.size := by
 unfold World.cell? at h
 split at h
 ·rename_i hb
  split at h
  ·cases h
  ·rename_i hs
   refine ⟨by simpa using hs, ?_⟩
   rcases Nat.lt_or_ge a.block w.heap.size with hl | hl
   ·exact hl
   ·rw [Array.getElem?_eq_none hl] at hb; cases hb
 ·cases h
theorem CR.sole {u : AV} {v : Value} (h : VR w w.heap.size ρ u v) : CR w w.heap.size ρ [u] [v] := CR.cons h CR.nil
theorem read_ok : ∀ (n : Nat) (t : TypeId) (cs : List Value) (x : DataW H × List MemPlace), DataW.trod enc P w 0 spare held n t cs = some x → ∀ m, Plain P m t = true → RdOk w P ρ n t cs x.1
 | 0, _, _, _, h, _, _ => by simp [DataW.trod] at h
 | n + 1, t, cs, x, h, 0, hp => by simp [Plain] at hp
 | n + 1, t, cs, x, h, m + 1, hp => by
  have ih := fun t cs x h m hp => read_ok n t cs x h m hp
  unfold Plain at hp
  unfold RdOk HasTy
  cases hu : P.underlying t with
  | none => simp [hu] at hp
  | some td =>
   rw [hu] at hp
   cases td with
   | bool =>
    obtain ⟨b, rfl, rfl⟩ := DataW.trod_bool hu h
    exact ⟨⟨b, rfl⟩, by simp [avs], by simp only [avs]; exact CR.sole (.bool b), by simp [avs, AV.leaf]⟩
   | int k =>
    obtain ⟨b, rfl, rfl, hw⟩ := DataW.trod_int hu h
    exact ⟨⟨b, rfl, hw⟩, by simp [avs], by simp only [avs]; exact CR.sole (.int k b), by simp [avs, AV.leaf]⟩
   | string =>
    obtain ⟨b, rfl, rfl, hw⟩ := DataW.trod_string hu h
    exact ⟨⟨_, rfl⟩, by simp [avs], by simp only [avs]; exact CR.sole (.str b), by simp [avs, AV.leaf]⟩
   | slice e =>
    simp only [Bool.and_eq_true, dtt] at hp
    rcases DataW.trod_slice hu h with ⟨rfl, rfl⟩ | ⟨a, len, cap, elems, rest, n', hn, rfl, rfl, hb, hlc, hcm, hel, helem, -, -⟩
    ·refine ⟨.inl rfl, by simp [avs], ?_, by simp [avs, AV.leaf]⟩
     simp only [avs]
     exact CR.sole (.ro true [] none 0 (fun _ _ => undef) (nlr _) (by simp) (fun _ => rfl) (fun a h => by cases h) (fun i x h => by simp at h) (fun i x h => by simp at h))
    ·obtain rfl : n = n' := by omega
     have hall : ∀ (i : Nat) (y : DataW H × List MemPlace), elems[i]? = some y → ∃ vs, w.cells? 0 (a.add (i * P.cellsOf e)) (P.cellsOf e) = some vs ∧ RdOk w P ρ n e vs y.1 := by
      intro i y hy
      have hi : i < len := by have := (ges.1 hy).1; omega
      have := helem i hi
      rw [hy] at this
      cases hc : w.cells? 0 (a.add (i * P.cellsOf e)) (P.cellsOf e) with
      | none => rw [hc] at this; cases this
      | some vs => rw [hc] at this; exact ⟨vs, rfl, ih e vs y this m hp.2⟩
     refine ⟨.inr ⟨_, _, rfl, fun d hd => ?_⟩, by simp [avs], ?_, by simp [avs, AV.leaf]⟩
     ·obtain ⟨y, hy, rfl⟩ := List.mem_map.1 hd
      obtain ⟨i, hi⟩ := List.getElem?_of_mem hy
      obtain ⟨vs, -, h1, -⟩ := hall i y hi
      exact h1
     ·simp only [avs]
      refine CR.sole ?_
      have hlen : (elts (elems.map (·.1))).length = len := by rw [elts_map]; simp [hel]
      have hget : ∀ (i : Nat) (u : AV), (elts (elems.map (·.1)))[i]? = some u → ∃ y vs, elems[i]? = some y ∧ w.cells? 0 (a.add (i * P.cellsOf e)) (P.cellsOf e) = some vs ∧ u.cells = avs y.1 ∧ RdOk w P ρ n e vs y.1 := by
       intro i u hu'
       rw [elts_map, List.map_map, gmm] at hu'
       cases hy : elems[i]? with
       | none => rw [hy] at hu'; cases hu'
       | some y =>
        rw [hy] at hu'
        obtain ⟨vs, h1, h2⟩ := hall i y hy
        cases hu'
        exact ⟨y, vs, rfl, h1, h2.1.pack, h2⟩
      have hadd : ∀ (b : Addr) (k : Nat), b.spot = none → b.add k = ⟨b.block, b.off + k, none⟩ := by
       intro b k hb
       obtain ⟨b1, b2, b3⟩ := b
       simp only at hb
       subst hb
       unfold Addr.add
       split
       ·rename_i h0; rw [h0]; rfl
       ·rfl
      have hsp : elems ≠ [] → a.spot = none ∧ a.block < w.heap.size := by
       intro hne
       obtain ⟨y, hy⟩ : ∃ y, elems[0]? = some y := by
        cases elems with
        | nil => exact (hne rfl).elim
        | cons y r => exact ⟨y, rfl⟩
       obtain ⟨vs, h2, -⟩ := hall 0 y hy
       obtain ⟨h7, h8⟩ := cells_at h2
       have hv := gee (show 0 < vs.length by rw [h7]; exact hp.1)
       have := h8 0 _ hv
       rw [Nat.zero_mul] at this
       exact spot_none (a := a) this
      have hcell : ∀ (i : Nat) (u : AV), (elts (elems.map (·.1)))[i]? = some u → ∀ (k : Nat) (c : AV), u.cells[k]? = some c → ∃ v, w.cell? ⟨a.block, a.off + i * u.cells.length + k, none⟩ = some v ∧ VR w w.heap.size ρ c v := by
       intro i u hu' k c hc
       obtain ⟨y, vs, hy, h2, h3, h4, h5, h6, -⟩ := hget i u hu'
       obtain ⟨h7, h8⟩ := cells_at h2
       rw [h3] at hc
       have hk : k < vs.length := by rw [← h5]; exact (ges.1 hc).1
       have hv := gee hk
       refine ⟨vs[k], ?_, h6.2 k c _ hc hv⟩
       have := h8 k _ hv
       have hs := (hsp (fun e => by rw [e] at hy; simp at hy)).1
       rw [hadd a _ hs, hadd _ _ rfl] at this
       rw [h3, h5, h7]
       exact this
      have key : VR w w.heap.size ρ (.ro false (elts (elems.map (·.1)))) (.slice (some a) (elts (elems.map (·.1))).length cap) := by
       refine .ro false _ (some a) cap (fun i k => match (elts (elems.map (·.1)))[i]? with
         | some u => (w.cell? ⟨a.block, a.off + i * u.cells.length + k, none⟩).getD undef
         | none => undef) (by omega) (by simp) (fun h => by cases h) ?_ ?_ ?_
       ·intro a' ha hne
        cases ha
        exact hsp (fun e => hne (by rw [e]; rfl))
       ·intro i u hu' k c hc a' ha
        cases ha
        obtain ⟨v, hv, -⟩ := hcell i u hu' k c hc
        simp only [hu', hv]
        rfl
       ·intro i u hu' k c hc
        obtain ⟨v, hv, hr⟩ := hcell i u hu' k c hc
        simp only [hu', hv]
        exact hr
      rw [hlen] at key
      exact key
   | struct fs =>
    obtain ⟨xs, n', hn, rfl, hcs, hxl, hx⟩ := DataW.trod_struct hu h
    obtain rfl : n = n' := by omega
    simp only [Bool.and_eq_true, aet] at hp
    obtain ⟨h1, h2, h3, h4⟩ := fields_read (ρ := ρ) ih fs.toList 0 (P.cellsOf t) xs hcs.symm (by simpa using hxl) (fun i f hf => hx i f (by simpa using hf)) hp.1 hp.2
    refine ⟨⟨_, rfl, by simp [hxl], fun i f y hf hy => ?_⟩, ?_, ?_, ?_⟩
    ·rw [gmm] at hy
     cases hxi : xs[i]? with
     | none => rw [hxi] at hy; cases hy
     | some z => rw [hxi] at hy; cases hy; exact h4 i f z hf hxi
    ·simp only [avs]; simpa using h1
    ·simp only [avs]; simpa using h2
    ·simp only [avs]; exact h3
   | _ => simp at hp
end
end Go.Ab
namespace Go.Ab
open Go.WideShapes Go.RowKit
def St.zero : St := ⟨0, .leaf, []⟩
theorem zero_ok : St.zero.Ok := fun _ _ => rfl
theorem run_ok {P : Program} {T : Tab} {K : Kn} (hm : P.follows .mixedOrders = true) (hT : TabOk P T) (hng : NoNG P) {w : World} (hK : KOk P w w.heap.size K) {f : FuncId} (hf : f < yb) (hx : K.ext f = none) {args : List AV} {args' : Array Value} (hgl : GlOk w w.heap.size K.gl)
  (hc : CallS P T K f args St.zero fun r _ => r = .bool true) (ha : CR w w.heap.size (fun _ _ => none) args args'.toList) : Calls P f args' w fun e w' => e = .returned (.bool true) ∧ Below w.heap.size w w' := by
 obtain ⟨N, v, s', rfl, hn⟩ := hc
 have hst : StZ (fun _ => False) St.zero St.zero := .refl
 obtain ⟨D', v', s1, hr, -, -, hv⟩ := hn (N + 1) (Nat.le_succ N) _ _ _ hst (.refl _)
 have := hv.hard rfl
 subst this
 have hs : Sim w w.heap.size (fun _ _ => none) St.zero w :=
  { low := Below.refl _ _, big := nlr _,
    ver := by intros; simp_all, al := by intros; simp_all, sep := by intros; simp_all, ctr := by intros; simp_all }
 refine (callsIn_wide.1 ((call_left (w0 := w) (B0 := w.heap.size) hgl hm hT hng hK (call_sound hgl hm hT hng hK N) hf hx hr).2 _ w args' hs ha)).mono fun e w' hp => ?_
 obtain ⟨ρ', _, h2, hp⟩ := hp
 cases e with
 | returned v' => cases (show VR w w.heap.size ρ' (.bool true) v' from hp); exact ⟨rfl, h2.low⟩
 | _ => exact hp.elim
section
variable {H : Type} {P : Program} {w : World} {ρ : Loc}
theorem packE_vr {r : Reach} {base n : Nat} {t : TypeId} {v : Value} {d : DataW H} (h : RdOk w P ρ n t v.cells.toList d) (hv : Value.okWide P w r base t v) : VR w w.heap.size ρ (packE d (avs d)) v := by
 obtain ⟨h1, h2, h3, h4⟩ := h
 cases n with
 | zero => exact h1.elim
 | succ n =>
  unfold HasTy at h1
  split at h1
  ·rename_i hu
   obtain ⟨b, rfl⟩ := h1
   obtain ⟨b', rfl⟩ := okWide_bool hu hv
   simp only [avs, packE] at h3 ⊢
   exact h3.2 0 _ _ rfl rfl
  ·rename_i hu
   obtain ⟨b, rfl, -⟩ := h1
   obtain ⟨b', rfl⟩ := okWide_int hu hv
   simp only [avs, packE] at h3 ⊢
   exact h3.2 0 _ _ rfl rfl
  ·rename_i hu
   obtain ⟨b, rfl⟩ := h1
   obtain ⟨b', rfl⟩ := okWide_string hu hv
   simp only [avs, packE] at h3 ⊢
   exact h3.2 0 _ _ rfl rfl
  ·rename_i hu
   obtain ⟨a, len, cap, rfl⟩ := okWide_slice hu hv
   rcases h1 with rfl | ⟨es, sp, rfl, -⟩
   ·simp only [avs, packE] at h3 ⊢
    exact h3.2 0 _ _ rfl rfl
   ·simp only [avs, packE] at h3 ⊢
    exact h3.2 0 _ _ rfl rfl
  ·rename_i hu
   obtain ⟨arr, rfl, -⟩ := okWide_struct hu hv
   obtain ⟨ds, rfl, -⟩ := h1
   simp only [packE]
   have e : Value.cells (.agg arr) = arr := rfl
   rw [e] at h2 h3
   exact .agg _ arr (by simpa using h2) fun i u v hu hv => h3.2 i u v hu (by simpa using hv)
  ·exact h1.elim
def dElems : DataW H → List (DataW H)
 | .slice es _ => es
 | _ => []
def dInt : DataW H → Int
 | .lit (.int _ n) => n
 | _ => 0
def dStr : DataW H → ByteArray
 | .lit (.string bs) => ⟨bs.toArray⟩
 | _ => ByteArray.empty
theorem ty_int {n : Nat} {t : TypeId} {k : IntKind} {d : DataW H} (h : HasTy P n t d) (hu : P.underlying t = some (.int k)) : avs d = [.int k (dInt d)] ∧ (Lit.int k (dInt d)).wf = true := by
 cases n with
 | zero => exact h.elim
 | succ n =>
  unfold HasTy at h
  rw [hu] at h
  obtain ⟨m, rfl, hw⟩ := h
  exact ⟨by simp [avs, dInt], hw⟩
theorem ty_str {n : Nat} {t : TypeId} {d : DataW H} (h : HasTy P n t d) (hu : P.underlying t = some .string) : avs d = [.str (dStr d)] := by
 cases n with
 | zero => exact h.elim
 | succ n =>
  unfold HasTy at h
  rw [hu] at h
  obtain ⟨m, rfl⟩ := h
  simp [avs, dStr]
theorem ty_slice {n : Nat} {t e : TypeId} {d : DataW H} (h : HasTy P n t d) (hu : P.underlying t = some (.slice e)) : ∃ m nl, avs d = [.ro nl (elts (dElems d))] ∧ packE d (avs d) = .ro nl (elts (dElems d)) ∧ ∀ x ∈ dElems d, HasTy P m e x := by
 cases n with
 | zero => exact h.elim
 | succ n =>
  unfold HasTy at h
  rw [hu] at h
  rcases h with rfl | ⟨es, sp, rfl, hx⟩
  ·exact ⟨n, true, by simp [avs, dElems, elts], by simp [avs, dElems, elts, packE], fun x hx => by cases hx⟩
  ·exact ⟨n, false, by simp [avs, dElems], by simp [avs, dElems, packE], hx⟩
theorem ty_struct {n : Nat} {t : TypeId} {fs : Array Field} {d : DataW H} (h : HasTy P n t d) (hu : P.underlying t = some (.struct fs)) : ∃ m ds, d = .agg ds ∧ ds.length = fs.toList.length ∧ ∀ (i : Nat) (f : Field) (x : DataW H), fs.toList[i]? = some f → ds[i]? = some x → HasTy P m f.type x := by
 cases n with
 | zero => exact h.elim
 | succ n =>
  unfold HasTy at h
  rw [hu] at h
  obtain ⟨ds, h1, h2, h3⟩ := h
  exact ⟨n, ds, h1, h2, h3⟩
theorem row_elts {h : Tr Grp} {sz m : Nat} {e : TypeId} {nl : Bool} {es : List (DataW H)} (ht : ∀ x ∈ es, HasTy P m e x) (hc : ∀ x ∈ es, (avs x).length = sz ∧ (avs x).all AV.leaf = true) : Row h sz (.ro nl (elts es)) (es.map avs) := by
 refine ⟨?_, ?_⟩
 ·rw [elts_map, List.map_map]
  exact List.map_congr_left fun x hx => (ht x hx).pack
 ·intro c hc'
  obtain ⟨x, hx, rfl⟩ := List.mem_map.1 hc'
  exact hc x hx
theorem rowF_elts {h : Tr Grp} {sz m : Nat} {e : TypeId} {nl : Bool} {es : List (DataW H)} {α : Type} {f : DataW H → α} {c : α → List AV} (ht : ∀ x ∈ es, HasTy P m e x) (hx : ∀ x ∈ es, avs x = c (f x)) (hc : ∀ a, (c a).length = sz ∧ (c a).all AV.leaf = true) : Row h sz (.ro nl (elts es)) ((es.map f).map c) := by
 have := row_elts (h := h) (sz := sz) (nl := nl) ht fun x hx' => by rw [hx x hx']; exact hc _
 rw [List.map_map]
 rw [show es.map (c ∘ f) = es.map avs from List.map_congr_left fun x hx' => (hx x hx').symm]
 exact this
theorem rowR_elts {h : Tr Grp} {sz m : Nat} {e : TypeId} {nl : Bool} {es : List (DataW H)} {α : Type} {f : DataW H → α} {R : Tr Grp → α → List AV → Prop} (ht : ∀ x ∈ es, HasTy P m e x) (hx : ∀ x ∈ es, R h (f x) (avs x)) (hc : ∀ x ∈ es, (avs x).length = sz ∧ (avs x).all AV.leaf = true) : RowR h sz R (.ro nl (elts es)) (es.map f) := by
 refine ⟨_, row_elts ht hc, by simp, fun i a c h1 h2 => ?_⟩
 rw [gmm] at h1 h2
 cases hy : es[i]? with
 | none => rw [hy] at h1; cases h1
 | some y =>
  rw [hy] at h1 h2
  cases h1
  cases h2
  exact hx y (mog hy)
end
end Go.Ab
namespace Go.Ab
open Go.Proofs
theorem tt_ok : TabOk Tryz.prog Tt := tab_ok (by kernel_rfl)
theorem prog_ng : NoNG Tryz.prog := ng_ok (by kernel_rfl)
theorem prog_mixed : Tryz.prog.follows .mixedOrders = true := by kernel_rfl
end Go.Ab
namespace Go.Proofs
open Go.Shelf
def Tryz.laysM144_ren : Go.Shelf.Ren := ⟨fun | 144 => 155 | 143 => 162 | 219 => 168 | 217 => 154 | 225 => 174 | 224 => 175 | 267 => 176 | 266 => 161 | 314 => 182 | n => n, fun | 9 => 9 | 4 => 4 | 3 => 3 | 5 => 5 | 46 => 136 | 146 => 159 | 51 => 158 | n => n, fun | 1 => 0 | n => n⟩
theorem Tryz.laysM144 : Go.Proofs.LaysM.n144 Tryz.prog Tryz.laysM144_ren := {
  mixed := by kernel_rfl
  f143 := Tryz.func162.trans (congrArg some (by kernel_rfl))
  f144 := Tryz.func155.trans (congrArg some (by kernel_rfl))
  f217 := Tryz.func154.trans (congrArg some (by kernel_rfl))
  f219 := Tryz.func168.trans (congrArg some (by kernel_rfl))
  f224 := Tryz.func175.trans (congrArg some (by kernel_rfl))
  f225 := Tryz.func174.trans (congrArg some (by kernel_rfl))
  f266 := Tryz.func161.trans (congrArg some (by kernel_rfl))
  f267 := Tryz.func176.trans (congrArg some (by kernel_rfl))
  f314 := Tryz.func182.trans (congrArg some (by kernel_rfl))
  t3 := Tryz.underlying3
  a3 := Tryz.isAgg3
  z3 := Tryz.sizeOf3
  v3 := Tryz.zeroValue3
  t4 := Tryz.underlying4
  a4 := Tryz.isAgg4
  z4 := Tryz.sizeOf4
  v4 := Tryz.zeroValue4
  t5 := Tryz.underlying5
  a5 := Tryz.isAgg5
  z5 := Tryz.sizeOf5
  v5 := Tryz.zeroValue5
  t9 := Tryz.underlying9
  a9 := Tryz.isAgg9
  z9 := Tryz.sizeOf9
  v9 := Tryz.zeroValue9
  t46 := Tryz.underlying136
  a46 := Tryz.isAgg136
  z46 := Tryz.sizeOf136
  v46 := Tryz.zeroValue136
  t51 := Tryz.underlying158
  a51 := Tryz.isAgg158
  z51 := Tryz.sizeOf158
  v51 := Tryz.zeroValue158
  t146 := Tryz.underlying159
  a146 := Tryz.isAgg159
  z146 := Tryz.sizeOf159
  v146 := Tryz.zeroValue159
  g1 := by kernel_rfl
  i3 := by kernel_rfl
  i4 := by kernel_rfl
  i5 := by kernel_rfl
  i9 := by kernel_rfl
  i46 := by kernel_rfl
  i51 := by kernel_rfl
  i146 := by kernel_rfl
  m1 := by kernel_rfl
  s1_3 := fun w h => Go.Proofs.cell_of_shapedOpen_int (zero := #[.int .i64 0]) (t := 3) h (of_decide_eq_true (by kernel_rfl)) (by kernel_rfl) rfl (by kernel_rfl) (by kernel_rfl) Tryz.underlying3 }
theorem Tryz.has_text (s sub : ByteArray) (m : Int) (w : World) (hs : s.size < 4294967281) (hm : w.cell? ⟨0, 0, none⟩ = some (.int .i64 m)) :
  Calls Tryz.prog 155 #[.string s, .string sub] w fun e w' => e = .returned (.bool (Lib.contains s.data.toList sub.data.toList)) ∧ w' = w := Any.strings_Contains { Tryz.laysM144 with } s sub m w hs hm
end Go.Proofs
namespace Go.Ab
open Go.Proofs
def hasL (sub : List UInt8) : List UInt8 → Bool
 | [] => sub.isEmpty
 | b :: l => sub.isPrefixOf (b :: l) || hasL sub l
theorem hasL_index (sub : List UInt8) : ∀ l, hasL sub l = decide (0 ≤ Lib.index l sub)
 | [] => by
  unfold hasL Lib.index
  cases sub.isEmpty <;> rfl
 | b :: l => by
  unfold hasL Lib.index
  rw [hasL_index sub l]
  cases sub.isPrefixOf (b :: l) with
  | true => rfl
  | false =>
   have h := Lib.index_ge l sub
   simp only [Bool.false_or, Bool.false_eq_true, if_false]
   by_cases h1 : Lib.index l sub = -1
   ·rw [h1]; rfl
   ·have h2 : (Lib.index l sub == -1) = false := by simpa using h1
    rw [h2]
    simp only [Bool.false_eq_true, if_false]
    exact decide_eq_decide.2 (by omega)
theorem contains_has (l sub : List UInt8) : Lib.contains l sub = hasL sub l := by rw [hasL_index]; rfl
def hasX : List AV → Option AV
 | [.str a, .str b] => if a.size < 4294967281 then some (.bool (hasL b.data.toList a.data.toList)) else none
 | _ => none
def MaxOk (w0 : World) (B0 : Nat) : Prop := 0 < B0 ∧ ∃ m, w0.cell? ⟨0, 0, none⟩ = some (.int .i64 m)
theorem MaxOk.later {w0 w : World} {B0 : Nat} (h : MaxOk w0 B0) (k : Later w0 B0 w) : MaxOk w w.heap.size := by
 obtain ⟨h1, m, h2⟩ := h
 exact ⟨Nat.lt_of_lt_of_le h1 k.2, m, by rw [k.1.cell h1]; exact h2⟩
def K0 : Kn := ⟨fun _ => none, fun _ => none, fun f => bif Nat.beq f 161 then some .idxByte else bif Nat.beq f 155 then some (.lib hasX) else none⟩
theorem k0_ok {w0 : World} {B0 : Nat} (hm : MaxOk w0 B0) : KOk Tryz.prog w0 B0 K0 := by
 refine ⟨fun _ _ h => (by cases h), fun f x h => ?_⟩
 unfold K0 at h
 simp only at h
 cases h1 : Nat.beq f 161 with
 | true =>
  rw [h1, cond_true] at h
  cases h
  obtain rfl := Nat.eq_of_beq_eq_true h1
  exact ⟨Tryz.f161, Tryz.func161, rfl, by kernel_rfl, by kernel_rfl, by kernel_rfl⟩
 | false =>
  rw [h1, cond_false] at h
  cases h2 : Nat.beq f 155 with
  | false => rw [h2, cond_false] at h; cases h
  | true =>
   rw [h2, cond_true] at h
   cases h
   obtain rfl := Nat.eq_of_beq_eq_true h2
   refine ⟨⟨Tryz.f155, Tryz.func155, rfl, by kernel_rfl⟩, fun args v hv ρ w args' hw ha => ?_⟩
   unfold hasX at hv
   split at hv
   ·rename_i a b
    split at hv
    ·rename_i hsz
     cases hv
     obtain ⟨-, m, hm⟩ := hm.later hw
     obtain ⟨e1, e2⟩ := ha
     have hsz2 : args'.size = 2 := by simpa using e1.symm
     obtain ⟨p, q, rfl⟩ : ∃ p q, args' = #[p, q] := ⟨args'[0], args'[1], by
       apply Array.ext
       · simp [hsz2]
       · intro i hi1 hi2
         have : i = 0 ∨ i = 1 := by simp at hi2; omega
         rcases this with rfl | rfl <;> rfl⟩
     have hp := e2 0 _ p rfl rfl
     have hq := e2 1 _ q rfl rfl
     cases hp
     cases hq
     refine (Tryz.has_text a b m w hsz hm).mono ?_
     rintro e w' ⟨rfl, rfl⟩
     exact ⟨_, rfl, by rw [contains_has]; exact .bool _, Go.RowKit.Below.refl _ _⟩
    ·cases hv
   ·cases hv
end Go.Ab
namespace Go.Ab
open Go.Proofs
def clsN (c : Nat) : Nat := if (97 ≤ c ∧ c ≤ 122) ∨ c = 95 then 97 else if 48 ≤ c ∧ c ≤ 57 then 48 else if c = 9 ∨ c = 10 ∨ c = 13 ∨ c = 32 then 32 else c
theorem clsN_lt {c : Nat} (h : c < 256) : clsN c < 256 := by unfold clsN; split <;> (try split) <;> (try split) <;> omega
def hitB (cs : List UInt8) (c : Nat) : Bool := decide (0 ≤ idxL (clsN c) cs 0)
def runN (cs l : List UInt8) : Nat := (l.takeWhile fun b => hitB cs b.toNat).length
theorem takeW_len {α : Type} {p : α → Bool} : ∀ {l : List α} {n : Nat}, n ≤ l.length → (∀ j x, j < n → l[j]? = some x → p x = true) → (∀ x, l[n]? = some x → p x = false) → (l.takeWhile p).length = n
 | [], n, h, _, _ => (Nat.le_zero.1 h).symm
 | x :: l, 0, _, _, h => by rw [List.takeWhile_cons, h x rfl]; rfl
 | x :: l, n + 1, h, k, h2 => by
  rw [List.takeWhile_cons, k 0 x (by omega) rfl, if_pos rfl, lcc, takeW_len (n := n) (by simpa using h) (fun j y hj hy => k (j + 1) y (by omega) (by simpa using hy)) (fun y hy => h2 y (by simpa using hy))]
def byX (b : ByteArray) (i : Nat) : Nat := (b.data.toList.getD i 0).toNat
theorem byX_get {b : ByteArray} {i : Nat} (h : i < b.size) : (b[i]'h).toNat = byX b i := by
 unfold byX
 rw [gdd, gee (by simpa using h)]
 rfl
theorem byX_at {b : ByteArray} {i : Nat} {x : UInt8} (h : b.data.toList[i]? = some x) : byX b i = x.toNat := by
 unfold byX
 rw [gdd, h]; rfl
theorem byX_lt (b : ByteArray) (i : Nat) : byX b i < 256 := by unfold byX; exact UInt8.toNat_lt _
theorem idx_ext {P : Program} {T : Tab} {s : St} {b : ByteArray} {c : Nat} {Q : AV → St → Prop} {f : FuncId} {K : Kn} (hf : Nat.ble yb f = false) (hx : K.ext f = some .idxByte) (hc : c < 256) (h : Q (.int .i64 (idxL c b.data.toList 0)) s) : CallS P T K f [.str b, .int .u8 (c : Nat)] s Q :=
 ⟨1, _, s, h, fun n hn E x args' hst ha => by
   have := ha.hards (by rfl)
   subst this
   obtain ⟨n, rfl⟩ : ∃ j, n = j + 1 := ⟨n - 1, by omega⟩
   have h3 : extA .idxByte [.str b, .int .u8 (c : Nat)] = some (.int .i64 (idxL c b.data.toList 0)) := by
     show (if 0 ≤ (c : Int) ∧ (c : Int) < 256 then some (AV.int .i64 (idxL (c : Int).toNat b.data.toList 0)) else none) = _
     rw [if_pos (by omega)]; rfl
   exact ⟨E, _, x, by simp only [evX, hf, cond_false, hx, h3], .refl, hst, .refl _⟩⟩
set_option maxRecDepth 10000 in
set_option maxHeartbeats 8000000 in
theorem class_ok {s : St} {c : Nat} (hok : s.Ok) (hc : c < 256) :
  CallS Tryz.prog Tt K0 153 [.int .u8 (c : Nat)] s fun r s' => Keep [] s s' ∧ r = .int .u8 (clsN c : Nat) := by
 refine call_of (fn := Tryz.f153) (nt := 37) Tryz.func153 rfl rfl rfl ?_
 refine aq0 ?_
 have hS := SH.start hok
 have hK := hS.K
 refine aq4 ?_
 refine w_split (i := 6) rfl (fun h6 => ?_) (fun h6 => ?_)
 ·simp only [dtt, ge_iff_le] at h6
  refine aq4 ?_
  refine w_split (i := 10) rfl (fun h10 => ?_) (fun h10 => ?_)
  ·simp only [dtt] at h10
   refine aq4 ?_
   refine wc_cond_t rfl ?_
   refine aq1 ?_
   exact ⟨_, rfl, hK, by unfold clsN; first | rw [if_pos (by omega)]; rfl | rw [if_neg (by omega), if_pos (by omega)]; rfl | rw [if_neg (by omega), if_neg (by omega), if_pos (by omega)]; rfl | rw [if_neg (by omega), if_neg (by omega), if_neg (by omega)]; rfl⟩
  simp only [dff] at h10
  refine aq4 ?_
  refine wc_condT rfl (fun h3 => ?_) (fun h3 => ?_)
  ·try simp only [beq_iff_eq] at h3
   refine aq1 ?_
   exact ⟨_, rfl, hK, by unfold clsN; first | rw [if_pos (by omega)]; rfl | rw [if_neg (by omega), if_pos (by omega)]; rfl | rw [if_neg (by omega), if_neg (by omega), if_pos (by omega)]; rfl | rw [if_neg (by omega), if_neg (by omega), if_neg (by omega)]; rfl⟩
  try simp only [bff, ne_eq] at h3
  refine aq3 ?_
  refine w_split (i := 17) rfl (fun h17 => ?_) (fun h17 => ?_)
  ·simp only [dtt, ge_iff_le] at h17
   refine aq4 ?_
   refine wc_condT rfl (fun h14 => ?_) (fun h14 => ?_)
   ·try simp only [dtt] at h14
    refine aq1 ?_
    exact ⟨_, rfl, hK, by unfold clsN; first | rw [if_pos (by omega)]; rfl | rw [if_neg (by omega), if_pos (by omega)]; rfl | rw [if_neg (by omega), if_neg (by omega), if_pos (by omega)]; rfl | rw [if_neg (by omega), if_neg (by omega), if_neg (by omega)]; rfl⟩
   try simp only [dff] at h14
   refine aq3 ?_
   refine w_split (i := 24) rfl (fun h24 => ?_) (fun h24 => ?_)
   ·simp only [beq_iff_eq] at h24
    refine aq12 ?_
    refine wc_cond_t rfl ?_
    refine aq1 ?_
    exact ⟨_, rfl, hK, by unfold clsN; first | rw [if_pos (by omega)]; rfl | rw [if_neg (by omega), if_pos (by omega)]; rfl | rw [if_neg (by omega), if_neg (by omega), if_pos (by omega)]; rfl | rw [if_neg (by omega), if_neg (by omega), if_neg (by omega)]; rfl⟩
   simp only [bff, ne_eq] at h24
   refine aq4 ?_
   refine w_split (i := 28) rfl (fun h28 => ?_) (fun h28 => ?_)
   ·simp only [beq_iff_eq] at h28
    refine aq8 ?_
    refine wc_cond_t rfl ?_
    refine aq1 ?_
    exact ⟨_, rfl, hK, by unfold clsN; first | rw [if_pos (by omega)]; rfl | rw [if_neg (by omega), if_pos (by omega)]; rfl | rw [if_neg (by omega), if_neg (by omega), if_pos (by omega)]; rfl | rw [if_neg (by omega), if_neg (by omega), if_neg (by omega)]; rfl⟩
   simp only [bff, ne_eq] at h28
   refine aq4 ?_
   refine w_split (i := 32) rfl (fun h32 => ?_) (fun h32 => ?_)
   ·simp only [beq_iff_eq] at h32
    refine aq4 ?_
    refine wc_cond_t rfl ?_
    refine aq1 ?_
    exact ⟨_, rfl, hK, by unfold clsN; first | rw [if_pos (by omega)]; rfl | rw [if_neg (by omega), if_pos (by omega)]; rfl | rw [if_neg (by omega), if_neg (by omega), if_pos (by omega)]; rfl | rw [if_neg (by omega), if_neg (by omega), if_neg (by omega)]; rfl⟩
   simp only [bff, ne_eq] at h32
   refine aq4 ?_
   refine wc_condT rfl (fun h21 => ?_) (fun h21 => ?_)
   ·try simp only [beq_iff_eq] at h21
    refine aq1 ?_
    exact ⟨_, rfl, hK, by unfold clsN; first | rw [if_pos (by omega)]; rfl | rw [if_neg (by omega), if_pos (by omega)]; rfl | rw [if_neg (by omega), if_neg (by omega), if_pos (by omega)]; rfl | rw [if_neg (by omega), if_neg (by omega), if_neg (by omega)]; rfl⟩
   try simp only [bff, ne_eq] at h21
   refine aq2 ?_
   exact ⟨_, rfl, hK, by unfold clsN; first | rw [if_pos (by omega)]; rfl | rw [if_neg (by omega), if_pos (by omega)]; rfl | rw [if_neg (by omega), if_neg (by omega), if_pos (by omega)]; rfl | rw [if_neg (by omega), if_neg (by omega), if_neg (by omega)]; rfl⟩
  simp only [dff, ge_iff_le] at h17
  refine aq4 ?_
  refine wc_cond_f rfl ?_
  refine aq3 ?_
  refine w_split (i := 24) rfl (fun h24 => ?_) (fun h24 => ?_)
  ·simp only [beq_iff_eq] at h24
   refine aq12 ?_
   refine wc_cond_t rfl ?_
   refine aq1 ?_
   exact ⟨_, rfl, hK, by unfold clsN; first | rw [if_pos (by omega)]; rfl | rw [if_neg (by omega), if_pos (by omega)]; rfl | rw [if_neg (by omega), if_neg (by omega), if_pos (by omega)]; rfl | rw [if_neg (by omega), if_neg (by omega), if_neg (by omega)]; rfl⟩
  simp only [bff, ne_eq] at h24
  refine aq4 ?_
  refine w_split (i := 28) rfl (fun h28 => ?_) (fun h28 => ?_)
  ·simp only [beq_iff_eq] at h28
   refine aq8 ?_
   refine wc_cond_t rfl ?_
   refine aq1 ?_
   exact ⟨_, rfl, hK, by unfold clsN; first | rw [if_pos (by omega)]; rfl | rw [if_neg (by omega), if_pos (by omega)]; rfl | rw [if_neg (by omega), if_neg (by omega), if_pos (by omega)]; rfl | rw [if_neg (by omega), if_neg (by omega), if_neg (by omega)]; rfl⟩
  simp only [bff, ne_eq] at h28
  refine aq4 ?_
  refine w_split (i := 32) rfl (fun h32 => ?_) (fun h32 => ?_)
  ·simp only [beq_iff_eq] at h32
   refine aq4 ?_
   refine wc_cond_t rfl ?_
   refine aq1 ?_
   exact ⟨_, rfl, hK, by unfold clsN; first | rw [if_pos (by omega)]; rfl | rw [if_neg (by omega), if_pos (by omega)]; rfl | rw [if_neg (by omega), if_neg (by omega), if_pos (by omega)]; rfl | rw [if_neg (by omega), if_neg (by omega), if_neg (by omega)]; rfl⟩
  simp only [bff, ne_eq] at h32
  refine aq4 ?_
  refine wc_condT rfl (fun h21 => ?_) (fun h21 => ?_)
  ·try simp only [beq_iff_eq] at h21
   refine aq1 ?_
   exact ⟨_, rfl, hK, by unfold clsN; first | rw [if_pos (by omega)]; rfl | rw [if_neg (by omega), if_pos (by omega)]; rfl | rw [if_neg (by omega), if_neg (by omega), if_pos (by omega)]; rfl | rw [if_neg (by omega), if_neg (by omega), if_neg (by omega)]; rfl⟩
  try simp only [bff, ne_eq] at h21
  refine aq2 ?_
  exact ⟨_, rfl, hK, by unfold clsN; first | rw [if_pos (by omega)]; rfl | rw [if_neg (by omega), if_pos (by omega)]; rfl | rw [if_neg (by omega), if_neg (by omega), if_pos (by omega)]; rfl | rw [if_neg (by omega), if_neg (by omega), if_neg (by omega)]; rfl⟩
 simp only [dff, ge_iff_le] at h6
 refine aq8 ?_
 refine wc_condT rfl (fun h3 => ?_) (fun h3 => ?_)
 ·try simp only [beq_iff_eq] at h3
  refine aq1 ?_
  exact ⟨_, rfl, hK, by unfold clsN; first | rw [if_pos (by omega)]; rfl | rw [if_neg (by omega), if_pos (by omega)]; rfl | rw [if_neg (by omega), if_neg (by omega), if_pos (by omega)]; rfl | rw [if_neg (by omega), if_neg (by omega), if_neg (by omega)]; rfl⟩
 try simp only [bff, ne_eq] at h3
 refine aq3 ?_
 refine w_split (i := 17) rfl (fun h17 => ?_) (fun h17 => ?_)
 ·simp only [dtt, ge_iff_le] at h17
  refine aq4 ?_
  refine wc_condT rfl (fun h14 => ?_) (fun h14 => ?_)
  ·try simp only [dtt] at h14
   refine aq1 ?_
   exact ⟨_, rfl, hK, by unfold clsN; first | rw [if_pos (by omega)]; rfl | rw [if_neg (by omega), if_pos (by omega)]; rfl | rw [if_neg (by omega), if_neg (by omega), if_pos (by omega)]; rfl | rw [if_neg (by omega), if_neg (by omega), if_neg (by omega)]; rfl⟩
  try simp only [dff] at h14
  refine aq3 ?_
  refine w_split (i := 24) rfl (fun h24 => ?_) (fun h24 => ?_)
  ·simp only [beq_iff_eq] at h24
   refine aq12 ?_
   refine wc_cond_t rfl ?_
   refine aq1 ?_
   exact ⟨_, rfl, hK, by unfold clsN; first | rw [if_pos (by omega)]; rfl | rw [if_neg (by omega), if_pos (by omega)]; rfl | rw [if_neg (by omega), if_neg (by omega), if_pos (by omega)]; rfl | rw [if_neg (by omega), if_neg (by omega), if_neg (by omega)]; rfl⟩
  simp only [bff, ne_eq] at h24
  refine aq4 ?_
  refine w_split (i := 28) rfl (fun h28 => ?_) (fun h28 => ?_)
  ·simp only [beq_iff_eq] at h28
   refine aq8 ?_
   refine wc_cond_t rfl ?_
   refine aq1 ?_
   exact ⟨_, rfl, hK, by unfold clsN; first | rw [if_pos (by omega)]; rfl | rw [if_neg (by omega), if_pos (by omega)]; rfl | rw [if_neg (by omega), if_neg (by omega), if_pos (by omega)]; rfl | rw [if_neg (by omega), if_neg (by omega), if_neg (by omega)]; rfl⟩
  simp only [bff, ne_eq] at h28
  refine aq4 ?_
  refine w_split (i := 32) rfl (fun h32 => ?_) (fun h32 => ?_)
  ·simp only [beq_iff_eq] at h32
   refine aq4 ?_
   refine wc_cond_t rfl ?_
   refine aq1 ?_
   exact ⟨_, rfl, hK, by unfold clsN; first | rw [if_pos (by omega)]; rfl | rw [if_neg (by omega), if_pos (by omega)]; rfl | rw [if_neg (by omega), if_neg (by omega), if_pos (by omega)]; rfl | rw [if_neg (by omega), if_neg (by omega), if_neg (by omega)]; rfl⟩
  simp only [bff, ne_eq] at h32
  refine aq4 ?_
  refine wc_condT rfl (fun h21 => ?_) (fun h21 => ?_)
  ·try simp only [beq_iff_eq] at h21
   refine aq1 ?_
   exact ⟨_, rfl, hK, by unfold clsN; first | rw [if_pos (by omega)]; rfl | rw [if_neg (by omega), if_pos (by omega)]; rfl | rw [if_neg (by omega), if_neg (by omega), if_pos (by omega)]; rfl | rw [if_neg (by omega), if_neg (by omega), if_neg (by omega)]; rfl⟩
  try simp only [bff, ne_eq] at h21
  refine aq2 ?_
  exact ⟨_, rfl, hK, by unfold clsN; first | rw [if_pos (by omega)]; rfl | rw [if_neg (by omega), if_pos (by omega)]; rfl | rw [if_neg (by omega), if_neg (by omega), if_pos (by omega)]; rfl | rw [if_neg (by omega), if_neg (by omega), if_neg (by omega)]; rfl⟩
 simp only [dff, ge_iff_le] at h17
 refine aq4 ?_
 refine wc_cond_f rfl ?_
 refine aq3 ?_
 refine w_split (i := 24) rfl (fun h24 => ?_) (fun h24 => ?_)
 ·simp only [beq_iff_eq] at h24
  refine aq12 ?_
  refine wc_cond_t rfl ?_
  refine aq1 ?_
  exact ⟨_, rfl, hK, by unfold clsN; first | rw [if_pos (by omega)]; rfl | rw [if_neg (by omega), if_pos (by omega)]; rfl | rw [if_neg (by omega), if_neg (by omega), if_pos (by omega)]; rfl | rw [if_neg (by omega), if_neg (by omega), if_neg (by omega)]; rfl⟩
 simp only [bff, ne_eq] at h24
 refine aq4 ?_
 refine w_split (i := 28) rfl (fun h28 => ?_) (fun h28 => ?_)
 ·simp only [beq_iff_eq] at h28
  refine aq8 ?_
  refine wc_cond_t rfl ?_
  refine aq1 ?_
  exact ⟨_, rfl, hK, by unfold clsN; first | rw [if_pos (by omega)]; rfl | rw [if_neg (by omega), if_pos (by omega)]; rfl | rw [if_neg (by omega), if_neg (by omega), if_pos (by omega)]; rfl | rw [if_neg (by omega), if_neg (by omega), if_neg (by omega)]; rfl⟩
 simp only [bff, ne_eq] at h28
 refine aq4 ?_
 refine w_split (i := 32) rfl (fun h32 => ?_) (fun h32 => ?_)
 ·simp only [beq_iff_eq] at h32
  refine aq4 ?_
  refine wc_cond_t rfl ?_
  refine aq1 ?_
  exact ⟨_, rfl, hK, by unfold clsN; first | rw [if_pos (by omega)]; rfl | rw [if_neg (by omega), if_pos (by omega)]; rfl | rw [if_neg (by omega), if_neg (by omega), if_pos (by omega)]; rfl | rw [if_neg (by omega), if_neg (by omega), if_neg (by omega)]; rfl⟩
 simp only [bff, ne_eq] at h32
 refine aq4 ?_
 refine wc_condT rfl (fun h21 => ?_) (fun h21 => ?_)
 ·try simp only [beq_iff_eq] at h21
  refine aq1 ?_
  exact ⟨_, rfl, hK, by unfold clsN; first | rw [if_pos (by omega)]; rfl | rw [if_neg (by omega), if_pos (by omega)]; rfl | rw [if_neg (by omega), if_neg (by omega), if_pos (by omega)]; rfl | rw [if_neg (by omega), if_neg (by omega), if_neg (by omega)]; rfl⟩
 try simp only [bff, ne_eq] at h21
 refine aq2 ?_
 exact ⟨_, rfl, hK, by unfold clsN; first | rw [if_pos (by omega)]; rfl | rw [if_neg (by omega), if_pos (by omega)]; rfl | rw [if_neg (by omega), if_neg (by omega), if_pos (by omega)]; rfl | rw [if_neg (by omega), if_neg (by omega), if_neg (by omega)]; rfl⟩
set_option maxRecDepth 10000 in
set_option maxHeartbeats 8000000 in
theorem idx1_ok {s : St} {b : ByteArray} {c : Nat} (hok : s.Ok) (hc : c < 256) :
  CallS Tryz.prog Tt K0 154 [.str b, .int .u8 (c : Nat)] s fun r s' => Keep [] s s' ∧ r = .int .i64 (idxL c b.data.toList 0) := by
 refine call_of (fn := Tryz.f154) (nt := 8) Tryz.func154 rfl rfl rfl ?_
 refine aq0 ?_
 have hS := SH.start hok
 have hK := hS.K
 refine aq3 ?_
 refine wkz (idx_ext (Q := fun r s' => Keep [] _ s' ∧ r = .int .i64 (idxL c b.data.toList 0)) rfl rfl hc ⟨.refl hK.ok, rfl⟩) ?_
 rintro _ z ⟨hk, rfl⟩
 have hS := hS.mov hk
 have hK := hS.K
 refine aq1 ?_
 exact ⟨_, rfl, hK, rfl⟩
set_option maxRecDepth 10000 in
set_option maxHeartbeats 8000000 in
theorem idx2_ok {s : St} {b : ByteArray} {c : Nat} (hok : s.Ok) (hc : c < 256) :
  CallS Tryz.prog Tt K0 145 [.str b, .int .u8 (c : Nat)] s fun r s' => Keep [] s s' ∧ r = .int .i64 (idxL c b.data.toList 0) := by
 refine call_of (fn := Tryz.f145) (nt := 8) Tryz.func145 rfl rfl rfl ?_
 refine aq0 ?_
 have hS := SH.start hok
 have hK := hS.K
 refine aq3 ?_
 refine wkz (idx1_ok hK.ok hc) ?_
 rintro _ z ⟨hk, rfl⟩
 have hS := hS.mov hk
 have hK := hS.K
 refine aq1 ?_
 exact ⟨_, rfl, hK, rfl⟩
set_option maxRecDepth 10000 in
set_option maxHeartbeats 8000000 in
theorem run_ok144 {s : St} {b cs : ByteArray} (hok : s.Ok) (hb : b.size ≤ maxBytes) :
  CallS Tryz.prog Tt K0 144 [.str b, .str cs] s fun r s' => Keep [] s s' ∧ r = .int .i64 (runN cs.data.toList b.data.toList : Nat) := by
 refine call_of (fn := Tryz.f144) (nt := 22) Tryz.func144 rfl rfl rfl ?_
 refine aq0 ?_
 have hS := SH.start hok
 have hK := hS.K
 have hbm : b.size ≤ 140737488355328 := hb
 refine aq2 ?_
 refine wc_loop_at (fun jj m z => ∃ i : Nat, jj = b.size - i ∧ i ≤ b.size ∧ m = [(0, .str b), (1, .str cs), (5, .int .i64 (i : Nat))] ∧ SH s [] z ∧ ∀ j, j < i → hitB cs.data.toList (byX b j) = true) b.size
  [(0, .str b), (1, .str cs), (5, .int .i64 ((0 : Nat) : Int))] (scn rfl (scn rfl (scn rfl (Sub.nil _)))) ⟨0, by simp, by simp, rfl, hS, fun j h => by omega⟩ ?_
 clear hS hK
 rintro jj m z ⟨i, rfl, hi, rfl, hS, hq⟩
 have hK := hS.K
 refine aq2 ?_
 refine wvz (op_lenS rfl rfl rfl rfl rfl) ?_
 refine aq2 ?_
 refine w_split (i := 10) rfl (fun h10 => ?_) (fun h10 => ?_)
 ·simp only [dtt] at h10
  have hil : i < b.size := by omega
  have hby := byX_get hil
  have hbl := byX_lt b i
  refine aq3 ?_
  refine wvz (v := .int .u8 (byX b i : Nat)) (by rw [← hby]; exact op_index rfl rfl (natA_cast _ _) rfl rfl hil) ?_
  refine wkz (class_ok hK.ok hbl) ?_
  rintro _ z ⟨hk, rfl⟩
  have hS := hS.mov hk
  have hK := hS.K
  refine wkz (idx2_ok hK.ok (clsN_lt hbl)) ?_
  rintro _ z ⟨hk, rfl⟩
  have hS := hS.mov hk
  have hK := hS.K
  refine aq2 ?_
  refine wc_condT rfl (fun h18 => ?_) (fun h18 => ?_)
  ·refine aq1 ?_
   refine wad ?_
   refine aq1 ?_
   exact rn ⟨i + 1, rfl, by omega, rfl, hS, fun j hj => (lsl.1 hj).elim (hq j) fun e => by rw [e]; exact h18⟩
  refine aq2 ?_
  first
   | exact ⟨_, rfl, hK, by
       rw [runN, takeW_len (n := i) (by simpa using hi) (fun j x hj hx => by rw [← byX_at hx]; exact hq j hj) (fun x hx => by rw [← byX_at hx]; exact h18)]; rfl⟩
   | exact ⟨_, rfl, hK, by
       rw [runN, takeW_len (n := b.size) (nlr _) (fun j x hj hx => by rw [← byX_at hx]; exact hq j hj) (fun x hx => absurd (ges.1 hx).1 (Nat.lt_irrefl _))]; rfl⟩
 simp only [dff] at h10
 obtain rfl : i = b.size := by omega
 refine aq8 ?_
 refine wc_cond_f rfl ?_
 refine aq2 ?_
 first
  | exact ⟨_, rfl, hK, by
      rw [runN, takeW_len (n := i) (by simpa using hi) (fun j x hj hx => by rw [← byX_at hx]; exact hq j hj) (fun x hx => by rw [← byX_at hx]; exact h18)]; rfl⟩
  | exact ⟨_, rfl, hK, by
      rw [runN, takeW_len (n := b.size) (nlr _) (fun j x hj hx => by rw [← byX_at hx]; exact hq j hj) (fun x hx => absurd (ges.1 hx).1 (Nat.lt_irrefl _))]; rfl⟩
section
variable {P : Program} {T : Tab} {K : Kn} {nt : NT} {m : Sy} {s : St}
theorem op_cutS0 {tt : TypeId} {x h : Operand} {b : ByteArray} {n : Nat} {i : TI} (hx : evY m x = some (.str b)) (hh : evY m h = some (.int .i64 (n : Nat))) (hT : T tt = some i) (hs : i.sh = .text) (hl : n ≤ b.size) :
  ∀ t, Has t nt m → evOp T (.slice tt x none (some h) none) t s = some (.val (.str (cutB b 0 n)), s) := by
 intro t ht
 obtain ⟨sh, size, by_, zero, flat⟩ := i
 cases hs
 have h1 : natA (.int .i64 (n : Nat)) = some n := natA_cast _ _
 simp only [evOp, evY_ok ht hx, optNat, evY_ok ht hh, h1, arrOk, hT, if_true, sliceA, Option.getD_none, Option.getD_some, Nat.zero_le, hl, and_self]
end
def preB (a b : ByteArray) : Bool := decide (b.size ≤ a.size) && (cutB a 0 b.size == b)
set_option maxRecDepth 10000 in
set_option maxHeartbeats 8000000 in
theorem pre1_ok {s : St} {a b : ByteArray} (hok : s.Ok) :
  CallS Tryz.prog Tt K0 165 [.str a, .str b] s fun r s' => Keep [] s s' ∧ r = .bool (preB a b) := by
 refine call_of (fn := Tryz.f165) (nt := 18) Tryz.func165 rfl rfl rfl ?_
 refine aq0 ?_
 have hS := SH.start hok
 have hK := hS.K
 refine aq2 ?_
 refine wvz (op_lenS rfl rfl rfl rfl rfl) ?_
 refine aq1 ?_
 refine wvz (op_lenS rfl rfl rfl rfl rfl) ?_
 refine aq2 ?_
 refine w_split (i := 10) rfl (fun h10 => ?_) (fun h10 => ?_)
 ·simp only [dtt, ge_iff_le] at h10
  refine aq2 ?_
  refine wvz (op_lenS rfl rfl rfl rfl rfl) ?_
  refine wvz (op_cutS0 rfl rfl rfl rfl (by omega)) ?_
  refine aq4 ?_
  exact ⟨_, rfl, hK, by rw [preB, decide_eq_true (by omega)]; rfl⟩
 simp only [dff, ge_iff_le] at h10
 refine aq8 ?_
 exact ⟨_, rfl, hK, by rw [preB, decide_eq_false (by omega)]; rfl⟩
set_option maxRecDepth 10000 in
set_option maxHeartbeats 8000000 in
theorem pre2_ok {s : St} {a b : ByteArray} (hok : s.Ok) :
  CallS Tryz.prog Tt K0 157 [.str a, .str b] s fun r s' => Keep [] s s' ∧ r = .bool (preB a b) := by
 refine call_of (fn := Tryz.f157) (nt := 8) Tryz.func157 rfl rfl rfl ?_
 refine aq0 ?_
 have hS := SH.start hok
 have hK := hS.K
 refine aq3 ?_
 refine wkz (pre1_ok hK.ok) ?_
 rintro _ z ⟨hk, rfl⟩
 have hS := hS.mov hk
 have hK := hS.K
 refine aq1 ?_
 exact ⟨_, rfl, hK, rfl⟩
end Go.Ab
namespace Go.Ab
open Go.Proofs Go.RowKit
def AV.sc : AV → Bool
 | .int _ _ | .bool _ | .str _ => true
 | _ => false
def AV.scs : AV → Bool
 | .agg cs => cs.all AV.sc
 | v => v.sc
section
variable {w0 w1 : World} {B0 B1 : Nat} {ρ ρ1 : Loc}
theorem VR.sc {x : AV} {v : Value} (h : VR w0 B0 ρ x v) (hx : x.sc = true) : VR w1 B1 ρ1 x v := by
 cases h <;> first | (cases hx; done) | exact .int _ _ | exact .bool _ | exact .str _
theorem VR.scs {x : AV} {v : Value} (h : VR w0 B0 ρ x v) (hx : x.scs = true) : VR w1 B1 ρ1 x v := by
 cases h with
 | agg cs arr h1 h2 => exact .agg cs arr h1 fun i u v hu hv => (h2 i u v hu hv).sc (aet.1 hx u (mog hu))
 | int => exact .int _ _
 | bool => exact .bool _
 | str => exact .str _
 | _ => cases hx
theorem CR.sc {l : List AV} {vs : List Value} (h : CR w0 B0 ρ l vs) (hl : l.all AV.sc = true) : CR w1 B1 ρ1 l vs :=
 ⟨h.1, fun i u v hu hv => (h.2 i u v hu hv).sc (aet.1 hl u (mog hu))⟩
end
section
variable {P : Program} {T : Tab} {K : Kn} {w0 : World} {B0 : Nat} {f : FuncId} {g : List AV → Option AV}
theorem lib_run (hm : P.follows .mixedOrders = true) (hT : TabOk P T) (hng : NoNG P) (hgl : K.gl = fun _ => none) (hK : ∀ w, Later w0 B0 w → KOk P w w.heap.size K) (hf : f < yb) (hx : K.ext f = none) (hc : Callable P f)
  (h : ∀ args v, g args = some v → args.all AV.sc = true ∧ v.scs = true ∧ ∃ n s', evX P T K (n + 1) f args ⟨0, .leaf, []⟩ = some (.ret v, s')) : ExtFn P w0 B0 f (.lib g) := by
 refine ⟨hc, fun args v hv ρ w args' hw ha => ?_⟩
 obtain ⟨h1, h2, n, s', h3⟩ := h args v hv
 refine (closed_call w (by rw [hgl]; exact GlOk.none _ _) hm hT hng (hK w hw) hf hx (ha.sc h1) h3).2.mono ?_
 rintro e w' ⟨ρ', v', rfl, h4, h5⟩
 exact ⟨v', rfl, h4.scs h2, h5⟩
theorem lib_call (hm : P.follows .mixedOrders = true) (hT : TabOk P T) (hng : NoNG P) (hgl : K.gl = fun _ => none) (hK : ∀ w, Later w0 B0 w → KOk P w w.heap.size K) (hf : f < yb) (hx : K.ext f = none) (hc : Callable P f)
  (h : ∀ args v, g args = some v → args.all AV.sc = true ∧ v.sc = true ∧ CallS P T K f args St.zero fun r _ => r = v) : ExtFn P w0 B0 f (.lib g) := by
 refine lib_run hm hT hng hgl hK hf hx hc fun args v hv => ?_
 obtain ⟨h1, h2, N, u, s', rfl, hn⟩ := h args v hv
 refine ⟨h1, by cases u <;> first | (cases h2; done) | exact h2, N, ?_⟩
 obtain ⟨D', u', s1, hr, -, -, hu⟩ := hn (N + 1) (Nat.le_succ N) _ _ _ (.refl : StZ (fun _ => False) St.zero St.zero) (.refl _)
 have : u' = u := hu.hard (by cases u <;> first | (cases h2; done) | rfl)
 subst this
 exact ⟨s1, hr⟩
end
def runX : List AV → Option AV
 | [.str b, .str cs] => if b.size ≤ maxBytes then some (.int .i64 (runN cs.data.toList b.data.toList : Nat)) else none
 | _ => none
def preX : List AV → Option AV
 | [.str a, .str b] => some (.bool (preB a b))
 | _ => none
def K1 : Kn := ⟨fun _ => none, fun _ => none, fun f => bif Nat.beq f 144 then some (.lib runX) else bif Nat.beq f 157 then some (.lib preX) else K0.ext f⟩
theorem k1_ok {w0 : World} {B0 : Nat} (hm : MaxOk w0 B0) : KOk Tryz.prog w0 B0 K1 := by
 refine ⟨fun _ _ h => (by cases h), fun f x h => ?_⟩
 unfold K1 at h
 simp only at h
 cases h1 : Nat.beq f 144 with
 | true =>
  rw [h1, cond_true] at h
  cases h
  obtain rfl := Nat.eq_of_beq_eq_true h1
  refine lib_call (K := K0) prog_mixed tt_ok prog_ng rfl (fun w hw => k0_ok (hm.later hw)) (by decide) rfl ⟨Tryz.f144, Tryz.func144, rfl, by kernel_rfl⟩ fun args v hv => ?_
  unfold runX at hv
  split at hv
  ·split at hv
   ·cases hv
    exact ⟨rfl, rfl, (run_ok144 zero_ok ‹_›).mono fun v s' h => h.2⟩
   ·cases hv
  ·cases hv
 | false =>
  rw [h1, cond_false] at h
  cases h2 : Nat.beq f 157 with
  | true =>
   rw [h2, cond_true] at h
   cases h
   obtain rfl := Nat.eq_of_beq_eq_true h2
   refine lib_call (K := K0) prog_mixed tt_ok prog_ng rfl (fun w hw => k0_ok (hm.later hw)) (by decide) rfl ⟨Tryz.f157, Tryz.func157, rfl, by kernel_rfl⟩ fun args v hv => ?_
   unfold preX at hv
   split at hv
   ·cases hv
    exact ⟨rfl, rfl, (pre2_ok zero_ok).mono fun v s' h => h.2⟩
   ·cases hv
  | false =>
   rw [h2, cond_false] at h
   exact (k0_ok hm).ext f x h
end Go.Ab
namespace Go.Ab
open Go.Proofs
def fltB (a b c : Int) (r : Option (End × St)) : Bool := match r with
 | some (.ret (.agg [.int .i64 x, .int .i64 y, .int .i64 z]), _) => x == a && y == b && z == c
 | _ => false
def ofT (l : List UInt8) : List AV := [.str ⟨l.toArray⟩]
end Go.Ab
namespace Go.Ab
open Go.Proofs
set_option maxRecDepth 1000000 in
theorem run1 : fltB 0 0 0 (evX Tryz.prog Tt K1 100000 27 (ofT [120, 32, 61, 32, 121, 59]) ⟨0, .leaf, []⟩) = true := by kernel_rfl
end Go.Ab
namespace Go.Ab
open Go.Proofs
set_option maxRecDepth 1000000 in
theorem run2 : fltB 80 0 0 (evX Tryz.prog Tt K1 100000 27 (ofT [121, 32, 61, 32, 120, 59]) ⟨0, .leaf, []⟩) = true := by kernel_rfl
end Go.Ab
namespace Go.Ab
open Go.Proofs
set_option maxRecDepth 1000000 in
theorem run3 : fltB 80 0 0 (evX Tryz.prog Tt K1 100000 27 (ofT [115, 101, 110, 100, 32, 99, 32, 120, 59]) ⟨0, .leaf, []⟩) = true := by kernel_rfl
end Go.Ab
namespace Go.Ab
open Go.Proofs
set_option maxRecDepth 1000000 in
theorem run4 : fltB 80 0 1 (evX Tryz.prog Tt K1 100000 27 (ofT [105, 102, 32, 120, 32, 123, 32, 121, 32, 61, 32, 49, 59, 32, 125]) ⟨0, .leaf, []⟩) = true := by kernel_rfl
end Go.Ab
namespace Go.Ab
open Go.Proofs
set_option maxRecDepth 1000000 in
theorem run5 : fltB 0 0 0 (evX Tryz.prog Tt K1 100000 27 (ofT [105, 102, 32, 121, 32, 123, 32, 120, 32, 61, 32, 49, 59, 32, 125, 32, 101, 108, 115, 101, 32, 123, 32, 121, 32, 61, 32, 50, 59, 32, 125, 32, 115, 101, 110, 100, 32, 99, 32, 121, 59]) ⟨0, .leaf, []⟩) = true := by kernel_rfl
end Go.Ab
namespace Go.Ab
open Go.Proofs
set_option maxRecDepth 1000000 in
theorem run6 : fltB 0 0 0 (evX Tryz.prog Tt K1 100000 27 (ofT [119, 104, 105, 108, 101, 32, 120, 32, 123, 32, 120, 32, 61, 32, 120, 32, 45, 32, 49, 59, 32, 125, 32, 121, 32, 61, 32, 48, 59]) ⟨0, .leaf, []⟩) = true := by kernel_rfl
end Go.Ab
namespace Go.Ab
open Go.Proofs Go.RowKit
def ofTab : List (List UInt8 × Int × Int × Int) := [([120, 32, 61, 32, 121, 59], 0, 0, 0), ([121, 32, 61, 32, 120, 59], 80, 0, 0), ([115, 101, 110, 100, 32, 99, 32, 120, 59], 80, 0, 0), ([105, 102, 32, 120, 32, 123, 32, 121, 32, 61, 32, 49, 59, 32, 125], 80, 0, 1), ([105, 102, 32, 121, 32, 123, 32, 120, 32, 61, 32, 49, 59, 32, 125, 32, 101, 108, 115, 101, 32, 123, 32, 121, 32, 61, 32, 50, 59, 32, 125, 32, 115, 101, 110, 100, 32, 99, 32, 121, 59], 0, 0, 0), ([119, 104, 105, 108, 101, 32, 120, 32, 123, 32, 120, 32, 61, 32, 120, 32, 45, 32, 49, 59, 32, 125, 32, 121, 32, 61, 32, 48, 59], 0, 0, 0)]
def ofX : List AV → Option AV
 | [.str b] => (ofTab.find? fun e => e.1 == b.data.toList).map fun e => .agg [.int .i64 e.2.1, .int .i64 e.2.2.1, .int .i64 e.2.2.2]
 | _ => none
theorem of_runs : ∀ e ∈ ofTab, fltB e.2.1 e.2.2.1 e.2.2.2 (evX Tryz.prog Tt K1 100000 27 (ofT e.1) ⟨0, .leaf, []⟩) = true := by
 intro e he
 unfold ofTab at he
 simp only [List.mem_cons, nmn, or_false] at he
 rcases he with rfl | rfl | rfl | rfl | rfl | rfl
 ·exact run1
 ·exact run2
 ·exact run3
 ·exact run4
 ·exact run5
 ·exact run6
theorem fltB_ok {a b c : Int} {r : Option (End × St)} (h : fltB a b c r = true) : ∃ s', r = some (.ret (.agg [.int .i64 a, .int .i64 b, .int .i64 c]), s') := by
 unfold fltB at h
 split at h
 ·rename_i x y z s'
  simp only [Bool.and_eq_true, beq_iff_eq] at h
  obtain ⟨⟨rfl, rfl⟩, rfl⟩ := h
  exact ⟨s', rfl⟩
 ·cases h
def K2 : Kn := ⟨fun _ => none, fun _ => none, fun f => bif Nat.beq f 27 then some (.lib ofX) else none⟩
theorem k2_ok {w0 : World} {B0 : Nat} (hm : MaxOk w0 B0) : KOk Tryz.prog w0 B0 K2 := by
 refine ⟨fun _ _ h => (by cases h), fun f x h => ?_⟩
 unfold K2 at h
 simp only at h
 cases h1 : Nat.beq f 27 with
 | false => rw [h1, cond_false] at h; cases h
 | true =>
  rw [h1, cond_true] at h
  cases h
  obtain rfl := Nat.eq_of_beq_eq_true h1
  refine lib_run (K := K1) prog_mixed tt_ok prog_ng rfl (fun w hw => k1_ok (hm.later hw)) (by decide) rfl ⟨Tryz.f27, Tryz.func27, rfl, by kernel_rfl⟩ fun args v hv => ?_
  unfold ofX at hv
  split at hv
  ·rename_i b
   obtain ⟨e, h2, rfl⟩ := Option.map_eq_some_iff.1 hv
   have h3 := List.mem_of_find?_eq_some h2
   have h4 := List.find?_some h2
   simp only [beq_iff_eq] at h4
   obtain ⟨s', h5⟩ := fltB_ok (of_runs e h3)
   refine ⟨rfl, rfl, 99999, s', ?_⟩
   have : ofT e.1 = [.str b] := by
    rw [ofT, h4]
   rw [← this]
   exact h5
  ·cases hv
theorem known_run : yes (evX Tryz.prog Tt K2 1000 9 [] ⟨0, .leaf, []⟩) = true := by kernel_rfl
theorem kt_ok {w0 : World} {B0 : Nat} (hm : MaxOk w0 B0) : KOk Tryz.prog w0 B0 Kt := by
 refine ⟨fun f b h => ?_, fun _ _ h => (by cases h)⟩
 unfold Kt at h
 simp only at h
 cases h1 : Nat.beq f 9 with
 | false => rw [h1, cond_false] at h; cases h
 | true =>
  rw [h1, cond_true] at h
  cases h
  obtain rfl := Nat.eq_of_beq_eq_true h1
  refine ⟨⟨Tryz.f9, Tryz.func9, rfl, by kernel_rfl⟩, fun w hw => ?_⟩
  exact closed_run w (GlOk.none _ _) prog_mixed tt_ok prog_ng (k2_ok (hm.later hw)) (by decide) rfl known_run
end Go.Ab
namespace Go.Ab
open Go.Proofs
section
variable {H : Type} {h : Tr Grp} {n : Nat} {d : DataW H}
theorem wf_u64 {a : Int} (h : (Lit.int .u64 a).wf = true) : U64 a := by
 simp only [Lit.wf, Bool.and_eq_true, dtt] at h
 have e1 : IntKind.u64.min = 0 := by decide
 have e2 : IntKind.u64.max = 18446744073709551615 := by decide
 rw [e1, e2] at h
 unfold U64
 omega
def toTerm : DataW H → TermL
 | .agg [a, b, c] => ⟨dInt a, dInt b, dStr c⟩
 | _ => ⟨0, 0, ByteArray.empty⟩
def toStmt : DataW H → StmtL
 | .agg [a, b, c, e] => ⟨dInt a, dStr b, (dElems c).map dStr, (dElems e).map fun r => (dElems r).map toTerm⟩
 | _ => ⟨0, ByteArray.empty, [], []⟩
def toDecl : DataW H → DeclL
 | .agg [a, b] => ⟨dStr a, dInt b⟩
 | _ => ⟨ByteArray.empty, 0⟩
def toArrD : DataW H → ArrD
 | .agg [a, b, c] => ⟨dStr a, dInt b, dInt c⟩
 | _ => ⟨ByteArray.empty, 0, 0⟩
def toFun : DataW H → FunL
 | .agg [a, l, p, r, v, b] => ⟨dStr a, dInt l, (dElems p).map toDecl, (dElems r).map dInt, (dElems v).map toDecl, (dElems b).map toStmt⟩
 | _ => ⟨ByteArray.empty, 0, [], [], [], []⟩
def toSrc : DataW H → SrcL
 | .agg [p, g, a, c, f] => ⟨(dElems p).map dStr, (dElems g).map toDecl, (dElems a).map toArrD, (dElems c).map toDecl, (dElems f).map toFun⟩
 | _ => ⟨[], [], [], [], []⟩
theorem term_of (k : HasTy Tryz.prog n 130 d) : avs d = tC (toTerm d) := by
 obtain ⟨m, ds, rfl, hl, hx⟩ := ty_struct k Tryz.underlying130
 match ds, hl, hx with
 | [a, b, c], _, hx =>
  have h0 := (ty_int (hx 0 _ a rfl rfl) Tryz.underlying3).1
  have h1 := (ty_int (hx 1 _ b rfl rfl) Tryz.underlying2).1
  have h2 := ty_str (hx 2 _ c rfl rfl) Tryz.underlying9
  simp only [avs, avsAll, h0, h1, h2, toTerm, tC]
  rfl
theorem strs_of (k : HasTy Tryz.prog n 22 d) : ∃ nl, avs d = [.ro nl (elts (dElems d))] ∧ Row h 1 (.ro nl (elts (dElems d))) (((dElems d).map dStr).map sC) := by
 obtain ⟨m, nl, h1, -, h2⟩ := ty_slice k Tryz.underlying22
 exact ⟨nl, h1, rowF_elts h2 (fun x hx => ty_str (h2 x hx) Tryz.underlying9) (fun a => ⟨rfl, rfl⟩)⟩
theorem terms_of (k : HasTy Tryz.prog n 89 d) : ∃ nl, avs d = [.ro nl (elts (dElems d))] ∧ Row h 3 (.ro nl (elts (dElems d))) (((dElems d).map toTerm).map tC) := by
 obtain ⟨m, nl, h1, -, h2⟩ := ty_slice k Tryz.underlying89
 exact ⟨nl, h1, rowF_elts h2 (fun x hx => term_of (h2 x hx)) (fun a => ⟨rfl, rfl⟩)⟩
theorem exprs_of (k : HasTy Tryz.prog n 45 d) : ∃ nl, avs d = [.ro nl (elts (dElems d))] ∧ RowR h 1 TermsR (.ro nl (elts (dElems d))) ((dElems d).map fun r => (dElems r).map toTerm) := by
 obtain ⟨m, nl, h1, -, h2⟩ := ty_slice k Tryz.underlying45
 refine ⟨nl, h1, rowR_elts h2 (fun x hx => ?_) (fun x hx => ?_)⟩
 ·obtain ⟨nl', h3, h4⟩ := terms_of (h := h) (h2 x hx)
  exact ⟨_, h3, h4⟩
 ·obtain ⟨nl', h3, -⟩ := terms_of (h := h) (h2 x hx)
  rw [h3]; exact ⟨rfl, rfl⟩
theorem stmt_of (k : HasTy Tryz.prog n 47 d) : StmtR h (toStmt d) (avs d) ∧ (avs d).length = 4 ∧ (avs d).all AV.leaf = true := by
 obtain ⟨m, ds, rfl, hl, hx⟩ := ty_struct k Tryz.underlying47
 match ds, hl, hx with
 | [a, b, c, e], _, hx =>
  have h0 := (ty_int (hx 0 _ a rfl rfl) Tryz.underlying3).1
  have h1 := ty_str (hx 1 _ b rfl rfl) Tryz.underlying9
  obtain ⟨n1, h2, h3⟩ := strs_of (h := h) (hx 2 _ c rfl rfl)
  obtain ⟨n2, h4, h5⟩ := exprs_of (h := h) (hx 3 _ e rfl rfl)
  have e1 : avs (.agg [a, b, c, e]) = [.int .i64 (dInt a), .str (dStr b), .ro n1 (elts (dElems c)), .ro n2 (elts (dElems e))] := by
   simp only [avs, avsAll, h0, h1, h2, h4]; rfl
  rw [e1]
  exact ⟨⟨_, _, rfl, h3, h5⟩, rfl, rfl⟩
theorem stmts_of (k : HasTy Tryz.prog n 41 d) : ∃ nl, avs d = [.ro nl (elts (dElems d))] ∧ RowR h 4 StmtR (.ro nl (elts (dElems d))) ((dElems d).map toStmt) := by
 obtain ⟨m, nl, h1, -, h2⟩ := ty_slice k Tryz.underlying41
 exact ⟨nl, h1, rowR_elts h2 (fun x hx => (stmt_of (h2 x hx)).1) (fun x hx => (stmt_of (h := .leaf) (h2 x hx)).2)⟩
theorem decl_of (k : HasTy Tryz.prog n 37 d) : avs d = dC (toDecl d) ∧ U64 (toDecl d).label := by
 obtain ⟨m, ds, rfl, hl, hx⟩ := ty_struct k Tryz.underlying37
 match ds, hl, hx with
 | [a, b], _, hx =>
  have h0 := ty_str (hx 0 _ a rfl rfl) Tryz.underlying9
  have h1 := ty_int (hx 1 _ b rfl rfl) Tryz.underlying29
  refine ⟨?_, wf_u64 h1.2⟩
  simp only [avs, avsAll, h0, h1.1, toDecl, dC]
  rfl
theorem arrD_of (k : HasTy Tryz.prog n 39 d) : avs d = adC (toArrD d) ∧ U64 (toArrD d).label := by
 obtain ⟨m, ds, rfl, hl, hx⟩ := ty_struct k Tryz.underlying39
 match ds, hl, hx with
 | [a, b, c], _, hx =>
  have h0 := ty_str (hx 0 _ a rfl rfl) Tryz.underlying9
  have h1 := (ty_int (hx 1 _ b rfl rfl) Tryz.underlying3).1
  have h2 := ty_int (hx 2 _ c rfl rfl) Tryz.underlying29
  refine ⟨?_, wf_u64 h2.2⟩
  simp only [avs, avsAll, h0, h1, h2.1, toArrD, adC]
  rfl
theorem decls_of (k : HasTy Tryz.prog n 23 d) : ∃ nl, avs d = [.ro nl (elts (dElems d))] ∧ Row h 2 (.ro nl (elts (dElems d))) (((dElems d).map toDecl).map dC) ∧ ∀ x ∈ (dElems d).map toDecl, U64 x.label := by
 obtain ⟨m, nl, h1, -, h2⟩ := ty_slice k Tryz.underlying23
 refine ⟨nl, h1, rowF_elts h2 (fun x hx => (decl_of (h2 x hx)).1) (fun a => ⟨rfl, rfl⟩), fun x hx => ?_⟩
 obtain ⟨z, hz, rfl⟩ := List.mem_map.1 hx
 exact (decl_of (h2 z hz)).2
theorem arrDs_of (k : HasTy Tryz.prog n 24 d) : ∃ nl, avs d = [.ro nl (elts (dElems d))] ∧ Row h 3 (.ro nl (elts (dElems d))) (((dElems d).map toArrD).map adC) ∧ ∀ x ∈ (dElems d).map toArrD, U64 x.label := by
 obtain ⟨m, nl, h1, -, h2⟩ := ty_slice k Tryz.underlying24
 refine ⟨nl, h1, rowF_elts h2 (fun x hx => (arrD_of (h2 x hx)).1) (fun a => ⟨rfl, rfl⟩), fun x hx => ?_⟩
 obtain ⟨z, hz, rfl⟩ := List.mem_map.1 hx
 exact (arrD_of (h2 z hz)).2
theorem labs_of (k : HasTy Tryz.prog n 40 d) : ∃ nl, avs d = [.ro nl (elts (dElems d))] ∧ Row h 1 (.ro nl (elts (dElems d))) (((dElems d).map dInt).map lC) ∧ ∀ x ∈ (dElems d).map dInt, U64 x := by
 obtain ⟨m, nl, h1, -, h2⟩ := ty_slice k Tryz.underlying40
 refine ⟨nl, h1, rowF_elts h2 (fun x hx => (ty_int (h2 x hx) Tryz.underlying29).1) (fun a => ⟨rfl, rfl⟩), fun x hx => ?_⟩
 obtain ⟨z, hz, rfl⟩ := List.mem_map.1 hx
 exact wf_u64 (ty_int (h2 z hz) Tryz.underlying29).2
def FunL.labs (f : FunL) : Prop := U64 f.level ∧ (∀ d ∈ f.params, U64 d.label) ∧ (∀ l ∈ f.results, U64 l) ∧ ∀ d ∈ f.vars, U64 d.label
theorem fun_of (k : HasTy Tryz.prog n 43 d) : FunR h (toFun d) (avs d) ∧ ((avs d).length = 6 ∧ (avs d).all AV.leaf = true) ∧ (toFun d).labs := by
 obtain ⟨m, ds, rfl, hl, hx⟩ := ty_struct k Tryz.underlying43
 match ds, hl, hx with
 | [a, l, p, r, v, b], _, hx =>
  have h0 := ty_str (hx 0 _ a rfl rfl) Tryz.underlying9
  have h1 := ty_int (hx 1 _ l rfl rfl) Tryz.underlying29
  obtain ⟨n1, h2, k2, j2⟩ := decls_of (h := h) (hx 2 _ p rfl rfl)
  obtain ⟨n2, h3, k3, j3⟩ := labs_of (h := h) (hx 3 _ r rfl rfl)
  obtain ⟨n3, h4, k4, j4⟩ := decls_of (h := h) (hx 4 _ v rfl rfl)
  obtain ⟨n4, h5, k5⟩ := stmts_of (h := h) (hx 5 _ b rfl rfl)
  have e1 : avs (.agg [a, l, p, r, v, b]) = [.str (dStr a), .int .u64 (dInt l), .ro n1 (elts (dElems p)), .ro n2 (elts (dElems r)), .ro n3 (elts (dElems v)), .ro n4 (elts (dElems b))] := by
   simp only [avs, avsAll, h0, h1.1, h2, h3, h4, h5]; rfl
  rw [e1]
  exact ⟨⟨_, _, _, _, rfl, k2, k3, k4, k5⟩, ⟨rfl, rfl⟩, wf_u64 h1.2, j2, j3, j4⟩
theorem funs_of (k : HasTy Tryz.prog n 25 d) : ∃ nl, avs d = [.ro nl (elts (dElems d))] ∧ RowR h 6 FunR (.ro nl (elts (dElems d))) ((dElems d).map toFun) ∧ ∀ x ∈ (dElems d).map toFun, x.labs := by
 obtain ⟨m, nl, h1, -, h2⟩ := ty_slice k Tryz.underlying25
 refine ⟨nl, h1, rowR_elts h2 (fun x hx => (fun_of (h2 x hx)).1) (fun x hx => (fun_of (h := .leaf) (h2 x hx)).2.1), fun x hx => ?_⟩
 obtain ⟨z, hz, rfl⟩ := List.mem_map.1 hx
 exact (fun_of (h := .leaf) (h2 z hz)).2.2
def SrcL.labs (s : SrcL) : Prop := (∀ d ∈ s.globals, U64 d.label) ∧ (∀ d ∈ s.arrays, U64 d.label) ∧ (∀ d ∈ s.channels, U64 d.label) ∧ ∀ f ∈ s.funcs, f.labs
theorem src_of (k : HasTy Tryz.prog n 27 d) : ∃ c, packE d (avs d) = .agg c ∧ SrcR h (toSrc d) c ∧ (toSrc d).labs := by
 obtain ⟨m, ds, rfl, hl, hx⟩ := ty_struct k Tryz.underlying27
 match ds, hl, hx with
 | [p, g, a, c, f], _, hx =>
  obtain ⟨n1, h1, k1⟩ := strs_of (h := h) (hx 0 _ p rfl rfl)
  obtain ⟨n2, h2, k2, j2⟩ := decls_of (h := h) (hx 1 _ g rfl rfl)
  obtain ⟨n3, h3, k3, j3⟩ := arrDs_of (h := h) (hx 2 _ a rfl rfl)
  obtain ⟨n4, h4, k4, j4⟩ := decls_of (h := h) (hx 3 _ c rfl rfl)
  obtain ⟨n5, h5, k5, j5⟩ := funs_of (h := h) (hx 4 _ f rfl rfl)
  have e1 : avs (.agg [p, g, a, c, f]) = [.ro n1 (elts (dElems p)), .ro n2 (elts (dElems g)), .ro n3 (elts (dElems a)), .ro n4 (elts (dElems c)), .ro n5 (elts (dElems f))] := by
   simp only [avs, avsAll, h1, h2, h3, h4, h5]; rfl
  exact ⟨_, rfl, by rw [e1]; exact ⟨_, _, _, _, _, rfl, k1, k2, k3, k4, k5⟩, j2, j3, j4, j5⟩
end
end Go.Ab
namespace Go.Proofs.YtdjekmljjhehhaaGreatDoor
open Go.ChangeShapes Go.WideShapes Go.ChangeAt Go.RowKit Go.Ab
section
variable {H : Type}
theorem bulk_pos (d : DataW H) : 1 ≤ Rows.uptoBulk d := by
 cases d with
 | lit l => cases l <;> simp [Rows.uptoBulk]
 | _ => simp [Rows.uptoBulk]
theorem bulk_len : ∀ (es : List (DataW H)), es.length ≤ Rows.uptoBulkAll es
 | [] => by simp [Rows.uptoBulkAll]
 | d :: r => by
  have h1 := bulk_pos d
  have h2 := bulk_len r
  simp only [Rows.uptoBulkAll, lcc]
  omega
theorem bulk_mem : ∀ (es : List (DataW H)) (x : DataW H), x ∈ es → Rows.uptoBulk x ≤ Rows.uptoBulkAll es
 | d :: r, x, h => by
  simp only [Rows.uptoBulkAll]
  rcases List.mem_cons.1 h with rfl | h
  ·omega
  ·have := bulk_mem r x h; omega
theorem elems_len (d : DataW H) : (dElems d).length ≤ Rows.uptoBulk d := by
 cases d with
 | slice es sp => have := bulk_len es; simp only [dElems, Rows.uptoBulk]; omega
 | _ => simp [dElems]
theorem elems_mem (d : DataW H) (x : DataW H) (h : x ∈ dElems d) : Rows.uptoBulk x ≤ Rows.uptoBulk d := by
 cases d with
 | slice es sp => have := bulk_mem es x h; simp only [Rows.uptoBulk]; omega
 | _ => cases h
theorem str_bulk (d : DataW H) : (dStr d).size ≤ Rows.uptoBulk d := by
 cases d with
 | lit l =>
  cases l with
  | string bs =>
   simp only [dStr, Rows.uptoBulk]
   show (List.toArray bs).size ≤ _
   simp
  | _ => simp [dStr]
 | _ => simp [dStr]
theorem str_max {d : DataW H} {b : Nat} (h : Rows.uptoBulk d ≤ b) (hb : b ≤ 2097152) : (dStr d).size ≤ maxBytes := by
 have := str_bulk d
 unfold maxBytes
 omega
theorem stmt_small (d : DataW H) (h : Rows.uptoBulk d ≤ 2097152) : (toStmt d).small := by
 unfold toStmt
 split
 ·rename_i a b c e
  simp only [Rows.uptoBulk, Rows.uptoBulkAll] at h
  have h1 := elems_len c
  have h2 := elems_len e
  refine ⟨by simp only [lmm]; omega, by simp only [lmm]; omega, fun ts hts => ?_⟩
  obtain ⟨r, hr, rfl⟩ := List.mem_map.1 hts
  have h3 := elems_mem e r hr
  have h4 := elems_len r
  simp only [lmm]; omega
 ·exact ⟨by simp, by simp, fun ts h => by cases h⟩
theorem decl_name (d : DataW H) (h : Rows.uptoBulk d ≤ 2097152) : (toDecl d).name.size ≤ maxBytes := by
 unfold toDecl
 split
 ·rename_i a b
  simp only [Rows.uptoBulk, Rows.uptoBulkAll] at h
  exact str_max (b := 2097152) (by omega) (by omega)
 ·simp
theorem arrD_name (d : DataW H) (h : Rows.uptoBulk d ≤ 2097152) : (toArrD d).name.size ≤ maxBytes := by
 unfold toArrD
 split
 ·rename_i a b c
  simp only [Rows.uptoBulk, Rows.uptoBulkAll] at h
  exact str_max (b := 2097152) (by omega) (by omega)
 ·simp
theorem decls_fine (d : DataW H) (h : Rows.uptoBulk d ≤ 2097152) (k : ∀ x ∈ (dElems d).map toDecl, U64 x.label) : ∀ x ∈ (dElems d).map toDecl, x.fine := fun x hx => by
 have h1 := k x hx
 obtain ⟨z, hz, rfl⟩ := List.mem_map.1 hx
 have := elems_mem d z hz
 exact ⟨decl_name z (by omega), h1⟩
theorem fun_small (d : DataW H) (h : Rows.uptoBulk d ≤ 2097152) (k : (toFun d).labs) : (toFun d).small ∧ (toFun d).fine := by
 unfold toFun at k ⊢
 split
 ·rename_i a l p r v b
  simp only [Rows.uptoBulk, Rows.uptoBulkAll] at h
  have h1 := elems_len p
  have h2 := elems_len r
  have h3 := elems_len v
  have h4 := elems_len b
  obtain ⟨k1, k2, k3, k4⟩ := k
  refine ⟨⟨by simp only [lmm]; omega, by simp only [lmm]; omega, by simp only [lmm]; omega, by simp only [lmm]; omega, fun x hx => ?_⟩, str_max (b := 2097152) (by omega) (by omega), k1, decls_fine p (by omega) k2, k3, decls_fine v (by omega) k4⟩
  obtain ⟨y, hy, rfl⟩ := List.mem_map.1 hx
  have := elems_mem b y hy
  exact stmt_small y (by omega)
 ·exact ⟨⟨by simp, by simp, by simp, by simp, fun x hx => by cases hx⟩, by simp, (by unfold U64; simp), fun x hx => (by cases hx), fun x hx => (by cases hx), fun x hx => (by cases hx)⟩
theorem src_small (d : DataW H) (h : Rows.uptoBulk d ≤ 2097152) (k : (toSrc d).labs) : (toSrc d).small ∧ (toSrc d).fine := by
 unfold toSrc at k ⊢
 split
 ·rename_i p g a c f
  simp only [Rows.uptoBulk, Rows.uptoBulkAll] at h
  have h1 := elems_len p
  have h2 := elems_len g
  have h3 := elems_len a
  have h4 := elems_len c
  have h5 := elems_len f
  obtain ⟨k1, k2, k3, k4⟩ := k
  have hfn : ∀ x ∈ (dElems f).map toFun, x.small ∧ x.fine := fun x hx => by
   have h6 := k4 x hx
   obtain ⟨y, hy, rfl⟩ := List.mem_map.1 hx
   have := elems_mem f y hy
   exact fun_small y (by omega) h6
  refine ⟨⟨by simp only [lmm]; omega, by simp only [lmm]; omega, by simp only [lmm]; omega, by simp only [lmm]; omega, by simp only [lmm]; omega, fun x hx => (hfn x hx).1⟩, fun x hx => ?_, decls_fine g (by omega) k1, fun x hx => ⟨?_, k2 x hx⟩, decls_fine c (by omega) k3, fun x hx => (hfn x hx).2⟩
  ·obtain ⟨y, hy, rfl⟩ := List.mem_map.1 hx
   have := elems_mem p y hy
   exact str_max (b := 2097152) (by omega) (by omega)
  ·obtain ⟨y, hy, rfl⟩ := List.mem_map.1 hx
   have := elems_mem a y hy
   exact arrD_name y (by omega)
 ·exact ⟨⟨by simp, by simp, by simp, by simp, by simp, fun x hx => by cases hx⟩, fun x hx => (by cases hx), fun x hx => (by cases hx), fun x hx => (by cases hx), fun x hx => (by cases hx), fun x hx => (by cases hx)⟩
end
end Go.Proofs.YtdjekmljjhehhaaGreatDoor
namespace Go.Proofs.YtdjekmljjhehhaaGreatDoor
open Go.ChangeShapes Go.WideShapes Go.ChangeAt Go.RowKit Go.Ab
theorem seat_own : ownKnob Tryz.prog.godebug = none := by kernel_rfl
noncomputable abbrev low0 : Nat := (World.settled Tryz.prog default).heap.size
noncomputable def laidWorld (os : Os) : World :=
 let N := (World.settled Tryz.prog os).heap.size
 let w0 := World.holding Tryz.prog os ⟨#[.cells #[.string ⟨#[105, 110, 118, 97, 108, 105, 100, 32, 115, 121, 110, 116, 97, 120]⟩] 247, .cells #[.string ⟨#[118, 97, 108, 117, 101, 32, 111, 117, 116, 32, 111, 102, 32, 114, 97, 110, 103, 101]⟩] 247], #[], []⟩
 let put (h : Array Obj) (g : Nat) (cs : Array Value) : Array Obj := h.modify g fun
  | .cells _ t frozen => .cells cs t frozen
  | o => o
 let h0 := put (put w0.heap 1 #[.iface 245 (.pointer (some ⟨N, 0, none⟩))]) 2 #[.iface 245 (.pointer (some ⟨N + 1, 0, none⟩))]
 let h1 := put h0 3 #[.int .u64 1, .int .u64 10, .int .u64 100, .int .u64 1000, .int .u64 10000, .int .u64 100000, .int .u64 1000000, .int .u64 10000000, .int .u64 100000000, .int .u64 1000000000, .int .u64 10000000000, .int .u64 100000000000, .int .u64 1000000000000, .int .u64 10000000000000, .int .u64 100000000000000, .int .u64 1000000000000000, .int .u64 10000000000000000, .int .u64 100000000000000000, .int .u64 1000000000000000000, .int .u64 10000000000000000000]
 let h2 := put h1 4 #[.int .u8 0, .int .u8 1, .int .u8 28, .int .u8 2, .int .u8 29, .int .u8 14, .int .u8 24, .int .u8 3, .int .u8 30, .int .u8 22, .int .u8 20, .int .u8 15, .int .u8 25, .int .u8 17, .int .u8 4, .int .u8 8, .int .u8 31, .int .u8 27, .int .u8 13, .int .u8 23, .int .u8 21, .int .u8 19, .int .u8 16, .int .u8 7, .int .u8 26, .int .u8 12, .int .u8 18, .int .u8 6, .int .u8 11, .int .u8 5, .int .u8 10, .int .u8 9]
 let h3 := put h2 5 #[.int .u8 0, .int .u8 1, .int .u8 56, .int .u8 2, .int .u8 57, .int .u8 49, .int .u8 28, .int .u8 3, .int .u8 61, .int .u8 58, .int .u8 42, .int .u8 50, .int .u8 38, .int .u8 29, .int .u8 17, .int .u8 4, .int .u8 62, .int .u8 47, .int .u8 59, .int .u8 36, .int .u8 45, .int .u8 43, .int .u8 51, .int .u8 22, .int .u8 53, .int .u8 39, .int .u8 33, .int .u8 30, .int .u8 24, .int .u8 18, .int .u8 12, .int .u8 5, .int .u8 63, .int .u8 55, .int .u8 48, .int .u8 27, .int .u8 60, .int .u8 41, .int .u8 37, .int .u8 16, .int .u8 46, .int .u8 35, .int .u8 44, .int .u8 21, .int .u8 52, .int .u8 32, .int .u8 23, .int .u8 11, .int .u8 54, .int .u8 26, .int .u8 40, .int .u8 15, .int .u8 34, .int .u8 20, .int .u8 31, .int .u8 10, .int .u8 25, .int .u8 14, .int .u8 19, .int .u8 9, .int .u8 13, .int .u8 8, .int .u8 7, .int .u8 6]
 { w0 with heap := h3 }
theorem laid_met (os : Os) (args : Array Value) : laidMet Tryz.prog Rows.flowtypeLevelsRow.laid ((laidWorld os).forCall (fun _ _ => 0) ⟨#[], args, []⟩).memory :=
 (LaidIn.of_run [4, 5, 3, 2, low0 + 1, 1, low0] 8 (by kernel_rfl) (by kernel_rfl) (by kernel_rfl) (by kernel_rfl)).met
theorem max_ok {W : World} (h : W.ShapedOpen Tryz.prog) : MaxOk W W.heap.size := by
 obtain ⟨m, hm⟩ := Tryz.laysM144.s1_3 W h
 refine ⟨?_, m, hm⟩
 refine Nat.lt_of_not_le fun hle => ?_
 have : W.heap[(0 : Nat)]? = none := Array.getElem?_eq_none (by omega)
 have hm : W.cell? ⟨0, 0, none⟩ = some (.int .i64 m) := hm
 simp [World.cell?, this] at hm
end Go.Proofs.YtdjekmljjhehhaaGreatDoor
namespace Go.Proofs.YtdjekmljjhehhaaGreatDoor
open Go.ChangeShapes Go.WideShapes Go.ChangeAt Go.RowKit Go.Ab
theorem plain27 : Plain Tryz.prog 10 27 = true := by kernel_rfl
theorem plain3 : Plain Tryz.prog 10 3 = true := by kernel_rfl
theorem levels_call {s : St} {c : List AV} {x : SrcL} (hok : s.Ok) (hx : x.small) (hfi : x.fine) (hv : SrcP x c) (f : Int) : CallS Tryz.prog Tt Kt 5 [.agg c, .int .i64 f] s fun r _ => r = .bool true := by
 by_cases hf : 0 ≤ f ∧ f < x.funcs.length
 ·obtain ⟨k, rfl⟩ : ∃ k : Nat, f = k := ⟨f.toNat, by omega⟩
  have hk : k < x.funcs.length := by omega
  exact flowtypeLevels_in hok hx hfi hv (gee hk)
 ·exact flowtypeLevels_out hok hx hfi hv hf
theorem int_of {H : Type} {P : Program} {n : Nat} {t : TypeId} {k : IntKind} {d : DataW H} (h : HasTy P n t d) (hu : P.underlying t = some (.int k)) : ∃ a, d = .lit (.int k a) := by
 cases n with
 | zero => exact h.elim
 | succ n =>
  unfold HasTy at h
  rw [hu] at h
  obtain ⟨m, rfl, hw⟩ := h
  exact ⟨m, rfl⟩
set_option maxRecDepth 100000 in
theorem levels_walk {H : Type} {enc : TypeId × Value → H} {W : World} {base : Nat} {v u : Value} {d e : DataW H} {ps qs : List MemPlace} (hsh : W.ShapedOpen Tryz.prog) (hval : Value.okWide Tryz.prog W .any base 27 v) (hval2 : Value.okWide Tryz.prog W .any base 3 u)
  (h : DataW.Trod enc Tryz.prog W 0 (fun _ => true) true 27 v d ps) (h2 : DataW.Trod enc Tryz.prog W 0 (fun _ => true) true 3 u e qs) (hb : Rows.uptoBulk d ≤ 1048576) :
  Calls Tryz.prog 5 #[v, u] W fun e w' => e = .returned (.bool true) ∧ Below W.heap.size W w' := by
 obtain ⟨fuel, hf⟩ := h
 obtain ⟨fuel2, hf2⟩ := h2
 have hr := read_ok (ρ := fun _ _ => none) fuel 27 _ _ hf 10 plain27
 have hr2 := read_ok (ρ := fun _ _ => none) fuel2 3 _ _ hf2 10 plain3
 obtain ⟨c, e1, k1, k2⟩ := src_of (h := .leaf) hr.1
 obtain ⟨k3, k4⟩ := src_small d (by omega) k2
 have hv := packE_vr hr hval
 have hv2 := packE_vr hr2 hval2
 obtain ⟨k, rfl⟩ := int_of hr2.1 Tryz.underlying3
 rw [e1] at hv
 exact run_ok prog_mixed tt_ok prog_ng (kt_ok (max_ok hsh)) (by decide) rfl (GlOk.none _ _) (levels_call zero_ok k3 k4 k1 k) (CR.cons hv (CR.cons hv2 CR.nil))
set_option maxRecDepth 100000 in
theorem levels_contract (H : Type) (enc : TypeId × Value → H) (W : World) (base : Nat) (args : Array Value) (ds gs : List (DataW H)) (before : List MemPlace)
  (hval : ∀ (j : Nat) t v, Tryz.f5.params[j]? = some t → args[j]? = some v → Value.okWide Tryz.prog W .any base t v)
  (hW : DataW.Whole enc Tryz.prog Tryz.f5.params.toList Rows.flowtypeLevelsSpec.vars false W args.toList ds gs before) (hk : Rows.uptoSmall H (ds ++ gs) = true) (hsh : W.ShapedOpen Tryz.prog) :
  Calls Tryz.prog 5 args W fun e W' => ∃ v, e = .returned v ∧ Rows.flowtypeLevelsSpec.post enc Tryz.prog Tryz.f5 false true false false W args v W' := by
 have hW' := hW
 have hlt := hW.lt
 obtain ⟨p, q, hA0, hV, rfl, hfz, hnd⟩ := hW
 have hA : DataW.TrodAll enc Tryz.prog W 0 (fun _ => true) true Tryz.f5.params.toList args.toList ds p := hA0
 rw [Tryz.params5] at hA hval
 obtain ⟨v0, vs0, d0, ds0, p0, q0, hargs, rfl, rfl, h0, r0⟩ := trodAll_cons hA
 obtain ⟨v1, vs1, d1, ds1, p1, q1, rfl, rfl, rfl, h1, r1⟩ := trodAll_cons r0
 obtain ⟨rfl, rfl, rfl⟩ := trodAll_nil r1
 obtain rfl : args = #[v0, v1] := by cases args; simp_all
 obtain ⟨rfl, rfl⟩ := trodVars_none hV
 clear hA0
 simp only [List.append_nil] at hW' hlt
 have hb := of_decide_eq_true hk
 simp only [List.append_nil, Rows.uptoBulkAll] at hb
 refine (levels_walk hsh (hval 0 27 v0 rfl rfl) (hval 1 3 v1 rfl rfl) h0 h1 (by omega)).mono fun e W' ⟨he, bel⟩ => ?_
 subst he
 exact ⟨_, rfl, _, _, _, [], _, [], hW', trodAll_mk1 (shut_bool Tryz.underlying4 _), trodAll_cons_mk (Below.trod (by kernel_rfl) (by kernel_rfl) (of_decide_eq_true (by kernel_rfl)) h0 bel (fun x hx => hlt x (List.mem_append_left _ hx))) (trodAll_cons_mk (Below.trod (by kernel_rfl) (by kernel_rfl) (of_decide_eq_true (by kernel_rfl)) h1 bel (fun x hx => hlt x (List.mem_append_right _ hx))) trodAll_mk0), rfl, bel.frame _, fun h => by cases h⟩
theorem levels_reads (os : Os) {H : Type} (enc : TypeId × Value → H) : (OpenSpec.ofChange Rows.flowtypeLevelsSpec).vars = [] ∧ ∃ x1 x2 places, DataW.whole enc Tryz.prog ((laidWorld os).forCall (fun _ _ => 0) ⟨#[], #[.agg #[.slice none 0 0, .slice none 0 0, .slice none 0 0, .slice none 0 0, .slice none 0 0], .int .i64 0], []⟩).memory Tryz.f5.params.toList Rows.flowtypeLevelsSpec.vars false #[Value.agg #[.slice none 0 0, .slice none 0 0, .slice none 0 0, .slice none 0 0, .slice none 0 0], Value.int .i64 0].toList 8 = some (x1, x2, places) ∧ x1 = [.agg [.nil, .nil, .nil, .nil, .nil], .lit (.int .i64 0)] ∧ x2 = [] :=
 ⟨rfl, _, _, [], by kernel_rfl, rfl, rfl⟩
set_option maxRecDepth 100000 in
theorem levels_lifted (os : Os) (started : os.Started) (H : Type) (enc : TypeId × Value → H) (F : Stop.Interp) :
  ReturnsInHanded {} Tryz.checked os 5 .any ((Rows.OpenSpec.upto Rows.flowtypeLevelsSpec).preRow enc Tryz.prog Tryz.f5 Rows.flowtypeLevelsUptoRow.domain false Rows.flowtypeLevelsUptoRow.laid) (((Rows.OpenSpec.upto Rows.flowtypeLevelsSpec).at F).post enc Tryz.prog Tryz.f5 false true false false) := by
 obtain ⟨-, x1, x2, places, hx, rfl, rfl⟩ := levels_reads os enc
 refine returnsInHanded_of_row (C := Tryz.checked) (s := Rows.OpenSpec.upto Rows.flowtypeLevelsSpec) seat_own started (by kernel_rfl) Tryz.func5
  (witness_row_atRef (enc := enc) (C := Tryz.checked) false (laidWorld os) #[.agg #[.slice none 0 0, .slice none 0 0, .slice none 0 0, .slice none 0 0, .slice none 0 0], .int .i64 0] rfl (by kernel_rfl) (by kernel_rfl) (by kernel_rfl)
    (OpenSpec.preRow_of_cond 8 hx (by kernel_rfl) (fun k hk => by cases hk; kernel_rfl) (by kernel_rfl) (laid_met os _))) ?_
 intro W base args ds gs before hval hW _ hk _ _ hsh _
 exact levels_contract H enc W base args ds gs before hval hW (hk _ rfl) hsh
theorem levels_saidUpto : Rows.FlowtypeLevelsUptoSaid :=
 OpenClaim.holds_of_cond 5 Tryz.f5 rfl rfl rfl rfl rfl rfl rfl ⟨rfl, rfl, rfl, rfl, rfl⟩ rfl rfl rfl rfl rfl (by kernel_rfl) Tryz.func5 (by kernel_rfl)
  (of_decide_eq_true (by kernel_rfl)) (by unfold Func.isWrapper; first | (rw [if_pos (by decide +kernel)]; kernel_rfl) | (rw [if_neg (by decide +kernel)]; exact ⟨rfl, rfl⟩))
  (fun os started H enc _ F => by rw [OpenClaim.pre_eq_preRow]; exact levels_lifted os started H enc F)
theorem levels_plain (f : FuncId) (fn : Func) (hf : Tryz.pinned.checked.prog.funcNamed "louver/louverlaw08.FlowtypeLevels" = some f) (hfn : Tryz.pinned.checked.prog.funcs[f]? = some fn) :
  true = Tryz.pinned.checked.prog.looks [] ∧ ∀ (j : Nat) t, fn.params[j]? = some t → Tryz.pinned.checked.prog.wantsStandIn t = false := by
 obtain rfl : f = 5 := Option.some.inj ((show Tryz.prog.funcNamed "louver/louverlaw08.FlowtypeLevels" = some 5 by kernel_rfl).symm.trans hf) |>.symm
 obtain rfl : fn = Tryz.f5 := (Option.some.inj (Tryz.func5.symm.trans hfn)).symm
 refine ⟨by kernel_rfl, fun j t ht => ?_⟩
 rw [Tryz.params5] at ht
 have := Array.mem_of_getElem? ht
 simp only [List.mem_toArray, List.mem_cons, nmn, or_false] at this
 rcases this with rfl | rfl
 ·exact (show Tryz.prog.wantsStandIn 27 = false by kernel_rfl)
 ·exact (show Tryz.prog.wantsStandIn 3 = false by kernel_rfl)
theorem flowtypeLevelsUptoCard_holds : Rows.FlowtypeLevelsUptoCardSaid :=
 Claim7.holds_tied_plain_at .later [] _ _ _ _ levels_saidUpto (fun _ h => by cases h) (by kernel_rfl) (fun _ h => by cases h) flowtypeLevelsUpto_row_tie rfl ⟨rfl, rfl⟩ (by kernel_rfl) rfl levels_plain (by kernel_rfl)
end Go.Proofs.YtdjekmljjhehhaaGreatDoor
