/- 'Rows.FlowtypeChecksUptoSaid': whatever source comes in (of bulk at most 1048576), the law returns true and it reads as it did. -/
import Derived.Test.YtdjekmljjhehhaaFC5
import Derived.ChangeArms
import Derived.WideShapes
import Derived.Test.YtdjekmljjhehhaaRows
import Derived.WalkKit
import Derived.ProofKit
import Derived.OpenShut
import Derived.JoinedCond
import Derived.Below
import Derived.Carry
set_option maxHeartbeats 8000000
set_option maxRecDepth 100000
namespace Go.Ab
open Go.Proofs
theorem flow_check_ref_ok {s : St} {c : List AV} {x : SrcL} (hok : s.Ok) (hx : x.small) (hfi : x.fine) (hv : SrcP x c) :
  CallS Try.prog Tt Kt 8 [.agg c] s fun r s' => Keep [] s s' ∧ r = .agg (fltC (firstF (chkL x))) := by
 have hz := hv.leaf;obtain ⟨vp, vg, va, vc, vf, rfl, hvp, hvg, hva, hvc, csf, hrf, hlf, hF⟩ := id hv;obtain ⟨hl1, hl2, hl3, hl4, hl5, hsm⟩ := id hx;have hsf : vf.slen = some x.funcs.length := by rw [hrf.slen, hlf]
 refine cof 48 Try.func8 ?_;refine aq0 ?_;have hS := SH.start hok;refine aq0 ?_;refine ws_box hS rfl rfl rfl hz ?_;rintro p0 z hS hk;have hS : SH _ [_] z _ := hS;refine ws_alloc hS rfl rfl rfl rfl ?_;rintro p2 z hS hk;have hS : SH _ [_, _] z _ := hS;refine aq0 ?_;refine wvz (v := .agg [vp, vg, va, vc, vf]) (oL 0 hS) ?_;refine wkz (check_ref_ok hS.ok hx hfi hv) ?_;rintro _ z ⟨hk, rfl⟩;have hS := hS.mov hk;refine ws_alloc hS rfl rfl rfl rfl ?_;rintro p3 z hS hk;have hS : SH _ [_, _, _] z _ := hS;have hK := hS.K
 first | refine ws_storeL 2 hS rfl rfl rfl rfl rfl rfl (by first | rfl | assumption | exact Row.leaf (by assumption)) (nl rfl) ?_ | refine ws_store 2 hS rfl rfl rfl rfl rfl rfl (by first | rfl | assumption | exact Row.leaf (by assumption)) (nl rfl) ?_
 rintro z hS;have hS : SH _ [_, _, _] z _ := hS;refine aq0 ?_;have hS : SH s [ptC (.ptr p0 0 0) [vp, vg, va, vc, vf], ptC (.ptr p2 0 0) [.int .i64 0, .int .i64 0, .int .i64 0], ptC (.ptr p3 0 0) (fltC (firstF (checkL x ++ (List.range 0).flatMap (flowF x))))] z := by rw [List.range_zero, List.flatMap_nil, List.append_nil]; exact hS
 have hK := hS.K;refine aq0 ?_;refine wvz (op_pure rfl) ?_;refine w_nil ?_;refine then_n ?_
 repeat refine wc_seq ?_
 refine wc_cut (fun m z => Sub [(1, .ptr p0 0 0), (2, .ptr p2 0 0), (3, .ptr p3 0 0)] m ∧ SH s [ptC (.ptr p0 0 0) [vp, vg, va, vc, vf], ptC (.ptr p2 0 0) [.int .i64 0, .int .i64 0, .int .i64 0], ptC (.ptr p3 0 0) (fltC (firstF (chkL x)))] z) ?_ ?_
 ·refine aq0 ?_;refine wc_loop_at (fun jj m z => ∃ k : Nat, jj = x.funcs.length - k ∧ k ≤ x.funcs.length ∧ m = [(1, .ptr p0 0 0), (2, .ptr p2 0 0), (3, .ptr p3 0 0), (4, .int .i64 (k : Nat))] ∧ SH s [ptC (.ptr p0 0 0) [vp, vg, va, vc, vf], ptC (.ptr p2 0 0) [.int .i64 0, .int .i64 0, .int .i64 0], ptC (.ptr p3 0 0) (fltC (firstF (checkL x ++ (List.range k).flatMap (flowF x))))] z) x.funcs.length
   [(1, .ptr p0 0 0), (2, .ptr p2 0 0), (3, .ptr p3 0 0), (4, .int .i64 ((0 : Nat) : Int))] (scn rfl (scn rfl (scn rfl (scn rfl (Sub.nil _))))) ⟨0, by simp, by simp, rfl, hS⟩ ?_
  clear hS hK;rintro jj m z ⟨k, rfl, hkl, rfl, hS⟩;have hK := hS.K;refine aq2 ?_;refine wvz (v := vf) (oL 0 hS) ?_;refine wvz (oN hsf) ?_;refine aq2 ?_;refine w_split (i := 14) rfl (fun h14 => ?_) (fun h14 => ?_)
  ·simp only [dtt] at h14;refine aq1 ?_;refine wvz (v := .int .i64 (firstF (checkL x ++ (List.range k).flatMap (flowF x))).err) (oL 2 hS) ?_;refine aq2 ?_;refine wcb (fun h18 => ?_) (fun h18 => ?_)
   ·have hOD := firstF_zero (good_cD x k) h18;obtain ⟨y, hy⟩ : ∃ y, x.funcs[k]? = some y := ⟨_, gee (by omega)⟩;obtain ⟨cy, hcy⟩ : ∃ c, csf[k]? = some c := ⟨_, gee (by omega)⟩;obtain ⟨yp, yr, yv, yb, rfl, hyp, hyr, hyv, hyb⟩ := hF k y cy hy hcy;obtain ⟨hy1, hy2, hy3, hy4, hy5⟩ := id (hsm y (mog hy));have hyf := hfi.2.2.2.2 y (mog hy);obtain ⟨csb, hbr, hbl, hbE⟩ := id hyb;have hsb : yb.slen = some y.body.length := by rw [hbr.slen, hbl]
    have hends := ord_ends (Off.l hOD) hy;refine aq0 ?_;refine wvz (v := .agg [vp, vg, va, vc, vf]) (oL 0 hS) ?_;refine aq1 ?_;refine wkz (levels_ref_ok hS.ok hx hfi hv hy) ?_;rintro r5 z ⟨hk, hr5⟩;have hS := hS.mov hk;have hK := hS.K;have hll := levs_len hy hends;have hl5 : r5.slen = some y.body.length := by rw [hr5.slen, lmm, hll]
    refine aq1 ?_;have hS : SH s [ptC (.ptr p0 0 0) [vp, vg, va, vc, vf], ptC (.ptr p2 0 0) [.int .i64 0, .int .i64 0, .int .i64 0], ptC (.ptr p3 0 0) (fltC (firstF (checkL x ++ (List.range k).flatMap (flowF x) ++ (List.range 0).flatMap (flowT x k y))))] z := by rw [List.range_zero, List.flatMap_nil, List.append_nil]; exact hS
    refine aq1 ?_;refine wc_loop_at (fun jj m z => ∃ i : Nat, jj = y.body.length - i ∧ i ≤ y.body.length ∧ m = [(1, .ptr p0 0 0), (2, .ptr p2 0 0), (3, .ptr p3 0 0), (4, .int .i64 (k : Nat)), (5, r5), (6, .int .i64 (i : Nat))] ∧ SH s [ptC (.ptr p0 0 0) [vp, vg, va, vc, vf], ptC (.ptr p2 0 0) [.int .i64 0, .int .i64 0, .int .i64 0], ptC (.ptr p3 0 0) (fltC (firstF (checkL x ++ (List.range k).flatMap (flowF x) ++ (List.range i).flatMap (flowT x k y))))] z) y.body.length
     [(1, .ptr p0 0 0), (2, .ptr p2 0 0), (3, .ptr p3 0 0), (4, .int .i64 (k : Nat)), (5, r5), (6, .int .i64 ((0 : Nat) : Int))] (scn rfl (scn rfl (scn rfl (scn rfl (scn rfl (scn rfl (Sub.nil _))))))) ⟨0, by simp, by simp, rfl, hS⟩ ?_
    clear hS hK;rintro jj m z ⟨i, rfl, hi, rfl, hS⟩;have hK := hS.K;refine aq2 ?_;refine wvz (oN hl5) ?_;refine aq2 ?_;refine w_split (i := 28) rfl (fun h28 => ?_) (fun h28 => ?_)
    ·simp only [dtt] at h28;refine aq1 ?_;refine wvz (v := .int .i64 (firstF (checkL x ++ (List.range k).flatMap (flowF x) ++ (List.range i).flatMap (flowT x k y))).err) (oL 2 hS) ?_;refine aq2 ?_;refine wcb (fun h32 => ?_) (fun h32 => ?_)
     ·have hOE := firstF_zero (good_cE x k y i) h32;obtain ⟨st, hst⟩ : ∃ st, y.body[i]? = some st := ⟨_, gee (by omega)⟩;obtain ⟨cst, hcst⟩ : ∃ c, csb[i]? = some c := ⟨_, gee (by omega)⟩;have hsr := hbE i st cst hst hcst;obtain ⟨vt, ve, rfl, -⟩ := id hsr;have hsz := hsr.leafs;have hio := ord_stmt (Off.l hOD) hy hst;have hfl : flowT x k y i = [(!keptK x k y st (levI x (k : Nat) y i), ⟨80, k, i⟩)] := flowT_at hst;have hlv := levI_64 hfi (f := (k : Nat)) hyf.2.1 i;have hli := levs_at hy hends (i := i) (by omega);refine aq0 ?_;have hR := Keep.refl (s := z) (by first | exact hK.ok | exact hS.ok | assumption);refine wc_draw (Old z []) (by kernel_rfl) rfl ?_;refine wol hR (v := .agg [vp, vg, va, vc, vf]) ((hS.pt 0 rfl).at (o := 0) (Nat.zero_le _)) (fun _ _ h => by cases h) ?_;refine aq4 ?_;refine wov (oJ (RowP.up hr5 _)) ?_;refine wol hR (v := .int .u64 ((levI x (k : Nat) y i : Nat) : Int)) (Row.mk_pt (RowP.up hr5 _) hli) (no_gs (RowP.egs hr5 _)) ?_;refine woc hR (keeps_ref_ok hR.ok hx hfi hv hy hst hio hlv) ?_;rintro _ sQ ⟨-, rfl⟩ hR;refine aq1 ?_;have hS := hS.mov hR;generalize St.mk sQ.ctr z.h (sQ.wr ++ z.wr) = z at hS ⊢;have hK := hS.K;refine aq0 ?_;refine wc_condT rfl (fun h43 => ?_) (fun h43 => ?_)
      ·simp only [Bool.not_eq_true'] at h43;refine aq3 ?_
       first | refine ws_storeL 2 hS rfl rfl rfl rfl rfl rfl (by first | rfl | assumption | exact Row.leaf (by assumption)) (nl rfl) ?_ | refine ws_store 2 hS rfl rfl rfl rfl rfl rfl (by first | rfl | assumption | exact Row.leaf (by assumption)) (nl rfl) ?_
       rintro z hS;have hS : SH _ [_, _, _] z _ := hS;refine aq1 ?_;refine wad ?_;refine aq1 ?_;have e1 : firstF (checkL x ++ (List.range k).flatMap (flowF x) ++ (List.range (i + 1)).flatMap (flowT x k y)) = ⟨80, k, i⟩ := by rw [range_flat, ← aas, firstF_off hOE, hfl, h43]; rfl
       have hS : SH s [ptC (.ptr p0 0 0) [vp, vg, va, vc, vf], ptC (.ptr p2 0 0) [.int .i64 0, .int .i64 0, .int .i64 0], ptC (.ptr p3 0 0) (fltC (firstF (checkL x ++ (List.range k).flatMap (flowF x) ++ (List.range (i + 1)).flatMap (flowT x k y))))] z := by rw [e1]; exact hS
       exact rn ⟨i + 1, rfl, by omega, rfl, hS⟩
      simp only [Bool.not_eq_false'] at h43;refine aq1 ?_;refine wad ?_;refine aq1 ?_;have e1 : firstF (checkL x ++ (List.range k).flatMap (flowF x) ++ (List.range (i + 1)).flatMap (flowT x k y)) = firstF (checkL x ++ (List.range k).flatMap (flowF x) ++ (List.range i).flatMap (flowT x k y)) := by rw [range_flat, ← aas, firstF_off hOE, hfl, h43, firstF_off' hOE]; rfl
      have hS : SH s [ptC (.ptr p0 0 0) [vp, vg, va, vc, vf], ptC (.ptr p2 0 0) [.int .i64 0, .int .i64 0, .int .i64 0], ptC (.ptr p3 0 0) (fltC (firstF (checkL x ++ (List.range k).flatMap (flowF x) ++ (List.range (i + 1)).flatMap (flowT x k y))))] z := by rw [e1]; exact hS
      exact rn ⟨i + 1, rfl, by omega, rfl, hS⟩
     refine aq1 ?_;refine wad ?_;refine aq1 ?_;have hS : SH s [ptC (.ptr p0 0 0) [vp, vg, va, vc, vf], ptC (.ptr p2 0 0) [.int .i64 0, .int .i64 0, .int .i64 0], ptC (.ptr p3 0 0) (fltC (firstF (checkL x ++ (List.range (k + 1)).flatMap (flowF x))))] z := by
      rw [range_flat, ← aas, flowF_at hy]
      first
      | exact hS
      | (obtain ⟨r, hr⟩ := range_split (flowT x k y) hi
         rw [hr, ← aas, firstF_more (good_cE x k y i) h32]; exact hS)
     exact rn ⟨k + 1, rfl, by omega, rfl, hS⟩
    simp only [dff] at h28;obtain rfl : i = y.body.length := by omega
    refine aq4 ?_;refine wc_cond_f rfl ?_;refine aq1 ?_;refine wad ?_;refine aq1 ?_;have hS : SH s [ptC (.ptr p0 0 0) [vp, vg, va, vc, vf], ptC (.ptr p2 0 0) [.int .i64 0, .int .i64 0, .int .i64 0], ptC (.ptr p3 0 0) (fltC (firstF (checkL x ++ (List.range (k + 1)).flatMap (flowF x))))] z := by
     rw [range_flat, ← aas, flowF_at hy]
     first
     | exact hS
     | (obtain ⟨r, hr⟩ := range_split (flowT x k y) hi
        rw [hr, ← aas, firstF_more (good_cE x k y i) h32]; exact hS)
    exact rn ⟨k + 1, rfl, by omega, rfl, hS⟩
   refine aq0 ?_;refine cut_n ?_;refine ⟨(scn rfl (scn rfl (scn rfl (Sub.nil _)))), ?_⟩
   first
   | exact hS
   | (obtain ⟨r, hr⟩ := range_split (flowF x) hkl
      rw [chkL, hr, ← aas, firstF_more (good_cD x k) h18]; exact hS)
  simp only [dff] at h14;obtain rfl : k = x.funcs.length := by omega
  refine aq4 ?_;refine wc_cond_f rfl ?_;refine aq0 ?_;refine cut_n ?_;refine ⟨(scn rfl (scn rfl (scn rfl (Sub.nil _)))), ?_⟩
  first
  | exact hS
  | (obtain ⟨r, hr⟩ := range_split (flowF x) hkl
     rw [chkL, hr, ← aas, firstF_more (good_cD x k) h18]; exact hS)
 clear hS hK;rintro m z ⟨hm, hS⟩;refine wc_sub hm ?_;refine aq0 ?_;refine wvz (v := .agg (fltC (firstF (chkL x)))) (oL 2 hS) ?_;refine ws_store 1 hS rfl rfl rfl rfl rfl rfl rfl (nl rfl) ?_;rintro z hS;have hK := hS.K;refine aq0 ?_;exact ⟨_, res_cell rfl rfl (hS.pt 1 rfl) rfl, hK, rfl⟩
def lfC {α : Type} (F : Nat → Prop) (sz : Nat) (f : α → List AV) (mk : List AV) (v : AV) (xs : List α) : Chunk := ⟨F, fun h => LentF h F sz f mk v xs, fun k h hY => k.keep h hY⟩
def lrC {α : Type} {R : RP α} (hG : Good R) (F : Nat → Prop) (sz : Nat) (mk : List AV) (v : AV) (xs : List α) : Chunk := ⟨F, fun h => LentRF h F sz R mk v xs, fun k h hY => k.keep hG h hY⟩
def thC {α : Type} {R : RP α} (hG : Good R) (F : Nat → Prop) (x : α) (c : List AV) : Chunk := ⟨F, fun h => R h F x c, fun k h hY => hG.keep k h hY⟩
def mkC {α : Type} {R : RP α} (hG : Good R) (F : Nat → Prop) (sz : Nat) (mk : List AV) (v : AV) (xs : List α) : Chunk :=
 ⟨F, fun h => v.gs ≠ [] ∧ (∀ g ∈ v.gs, F g) ∧ ∃ css, Row h sz v (css ++ [mk]) ∧ css.length = xs.length ∧ ∀ (i : Nat) (x : α) (c : List AV), xs[i]? = some x → css[i]? = some c → R h F x c,
   fun ⟨h1, h2, css, h3, h4, h5⟩ h hY => ⟨h1, h2, css, h3.keep h fun g hg hy => hY g hy (h2 g hg), h4, fun i x c k1 k2 => hG.keep (h5 i x c k1 k2) h hY⟩⟩
section
variable {P : Program} {T : Tab} {K : Kn} {nt : NT} {ops : Array Oper} {rest : List Oper} {m : Sy} {s s0 : St} {Q : Sy → St → Prop} {d ty : Nat} {pos : String} {af : Array Edge} {g : Option (Nat × Bool)} {L : List Chunk} {α : Type}
theorem ws_app_mkB {R : RP α} {hG : Good R} {F : Nat → Prop} {sz : Nat} {f b : AV} {xs : List α} {c : List AV} {tt e : TypeId} {x y : Operand} {args : Array Operand} {tys : Array TypeId} {i ie : TI} (n : Nat) (hS : SH s0 L s) (hn : L[n]? = some (bldC R hG F sz f xs))
  (hg : guardY ops m g = some true) (hd : Nat.ble (d + 1) nt.n = true) (h1 : args.toList = [x, y]) (h2 : tys.toList = [tt, tt]) (hx : evY m x = some f) (hy : evY m y = some b) (hT : T tt = some i) (hs : i.sh = .slice e) (he : T e = some ie) (hsz : ie.size = sz) (h0 : sz ≠ 0) (hb : Row s.h sz b [c])
  (hb1 : (xs.length + 1) * ie.bytes ≤ maxBytes) (hb2 : xs.length + 1 ≤ maxBytes)
  (k : ∀ v s' F', SH s0 (L.set n (mkC hG F' sz c v xs)) s' → W P T K nt ops rest ((d, v) :: m) s' Q) :
  W P T K nt ops (⟨some d, .call ⟨.builtin .append, args, tys⟩, ty, pos, af, g⟩ :: rest) m s Q := by
 subst hsz;obtain ⟨css, hr, hnl, hgF, hl, hX⟩ := hS.bld n hn;refine w_append hg hd h1 h2 hx hy hT hs he h0 hS.ok hr hnl hb (by rw [hl]; exact hb1) (by rw [hl]; exact hb2) ?_;intro v s' hv hk hle hvg hvn hne;have hbn := hS.bdX n hn;have hvl := hv.lt hk.ok
 let F' : Nat → Prop := fun g => F g ∨ (s.ctr ≤ g ∧ g < s'.ctr)
 have hvF : ∀ g ∈ v.gs, F' g := fun g hg => by
  rcases hvg with h | h
  ·exact .inl (hgF g (by rwa [h] at hg))
  ·refine .inr ⟨?_, hvl g hg⟩;rw [h] at hg; rw [msi.1 hg]; exact nlr _
 have hP : (mkC hG F' ie.size c v xs).P s'.h := by
  refine ⟨hne (by simp), hvF, css, hv, hl, fun i x c' h1' h2' => ?_⟩;exact hG.mono (hG.keep (hX i x c' h1' h2') hk fun g hg hF => hF.2 hg) fun g hF => .inl hF.1
 exact k v s' F' (hS.upd n hn hk (fun g hg => hgF g hg) (mkC hG F' ie.size c v xs) hP fun g hg => hg)
end
open Go.Proofs
theorem lentSource_ok {s : St} {c : List AV} {x : SrcL} (hok : s.Ok) (hx : x.small) (hv : SrcR s.h x c) :
  CallS Try.prog Tt Kt 6 [.agg c] s (fun r s' => Keep [] s s' ∧ ∃ c', r = .agg c' ∧ SrcLF s'.h (Fr s.ctr s'.ctr []) x c') := by
 have hz : c.all AV.leaf = true := by
  obtain ⟨vp, vg, va, vc, vf, rfl, h1, h2, h3, h4, css, h5, -⟩ := hv;simp only [List.all_cons, List.all_nil, h1.leaf, h2.leaf, h3.leaf, h4.leaf, h5.leaf]; rfl
 obtain ⟨vp, vg, va, vc, vf, rfl, hvp, hvg, hva, hvc, csf, hrf, hlf, hF⟩ := hv;obtain ⟨hl1, hl2, hl3, hl4, hl5, hsm⟩ := hx;refine cof 77 Try.func6 ?_;refine aq0 ?_;have hS := SH.start hok;refine aq0 ?_;refine ws_box hS rfl rfl rfl hz ?_;rintro p0 z hS hk;have hS : SH _ [_] z := hS;refine ws_alloc hS rfl rfl rfl rfl ?_;rintro p1 z hS hk;have hS : SH _ [_, _] z := hS;refine aq0 ?_;refine ws_alloc hS rfl rfl rfl rfl ?_;rintro p2 z hS hk;have hS : SH _ [_, _, _] z := hS;have hK := hS.K;refine aq1 ?_;refine wvz (oL 0 hS) ?_;refine wkz (lentStrings_ok hK.ok hl1 (hvp.keep0 hK)) ?_;rintro r1 z ⟨hk, hl⟩;have hS := hS.add hk (lfC _ 1 sC [.str markB] r1 x.principals) hl (fun g h => ⟨h.1, h.2.1⟩);have hr1 : r1.leaf = true := hl.1.leaf;have hS : SH _ [_, _, _, _] z := hS;have hK := hS.K;clear hk hl;refine aq1 ?_;refine ws_storeL 2 hS rfl rfl rfl rfl rfl rfl (by assumption) (nl rfl) ?_;rintro z hS;have hS : SH _ [_, _, _, _] z := hS;have hK := hS.K;refine aq1 ?_;refine wvz (oL 0 hS) ?_;refine wkz (lentDecls_ok hK.ok hl2 (hvg.keep0 hK)) ?_;rintro r2 z ⟨hk, hl⟩;have hS := hS.add hk (lfC _ 2 dC mkD r2 x.globals) hl (fun g h => ⟨h.1, h.2.1⟩);have hr2 : r2.leaf = true := hl.1.leaf;have hS : SH _ [_, _, _, _, _] z := hS;have hK := hS.K;clear hk hl;refine aq1 ?_;refine ws_storeL 2 hS rfl rfl rfl rfl rfl rfl (by assumption) (nl rfl) ?_;rintro z hS;have hS : SH _ [_, _, _, _, _] z := hS;have hK := hS.K;refine aq1 ?_;refine wvz (oL 0 hS) ?_;refine wkz (lentDecls_ok hK.ok hl4 (hvc.keep0 hK)) ?_;rintro r3 z ⟨hk, hl⟩;have hS := hS.add hk (lfC _ 2 dC mkD r3 x.channels) hl (fun g h => ⟨h.1, h.2.1⟩);have hr3 : r3.leaf = true := hl.1.leaf;have hS : SH _ [_, _, _, _, _, _] z := hS;have hK := hS.K;clear hk hl;refine aq1 ?_;refine ws_storeL 2 hS rfl rfl rfl rfl rfl rfl (by assumption) (nl rfl) ?_;rintro z hS;have hS : SH _ [_, _, _, _, _, _] z := hS;refine aq1 ?_;have hS := hS.nil 3;have hS : SH _ [_, _, _, _, _, _, _] z := hS;have hK := hS.K;refine aq2 ?_;refine wvz (oL 0 hS) ?_;refine ws_append 6 hS rfl rfl rfl rfl rfl rfl rfl rfl rfl rfl rfl (by decide) (hva.keep0 hK) (by (simp only [lmm, lnn, maxBytes]; omega)) (by (simp only [lmm, lnn, maxBytes]; omega)) ?_;rintro at23 z hS;have hS : SH _ [_, _, _, _, _, _, _] z := hS;refine aq3 ?_;refine ws_lit1 hS rfl rfl rfl rfl rfl rfl rfl rfl (by decide) (by decide) rfl (by rfl) rfl ?_;rintro lt26 z hS hk hlt26;refine ws_append 6 hS rfl rfl rfl rfl rfl rfl rfl rfl rfl rfl rfl (by decide) (hlt26) (by (simp only [lmm, lnn, laa, lcc, maxBytes]; omega)) (by (simp only [lmm, lnn, laa, lcc, maxBytes]; omega)) ?_;rintro at27 z hS;have hS : SH _ [_, _, _, _, _, _, _] z := hS;have hK := hS.K;refine aq3 ?_;refine wvz (oL 0 hS) ?_;refine wvz (op_len rfl rfl rfl rfl rfl (Row.slenF (by assumption))) ?_;refine wvz (op_cut (l := none) (h := some x.arrays.length) (l' := 0) (h' := x.arrays.length) rfl rfl (optY_some rfl (natA_cast _ _)) rfl rfl rfl rfl (hS.row 6 rfl) rfl rfl (Nat.zero_le _) (by simp)) ?_;refine aq1 ?_;refine ws_storeL 2 hS rfl rfl rfl rfl rfl rfl ((hS.row 6 rfl).less (by simp)).leaf (nl rfl) ?_;rintro z hS;have hS : SH _ [_, _, _, _, _, _, _] z := hS;refine aq1 ?_;have hS := hS.nilB FunLF good_fun 6;have hS : SH _ [_, _, _, _, _, _, _, _] z := hS;have hK := hS.K;refine aq1 ?_;refine wc_loop_at (fun jj m z => ∃ (k : Nat) (f : AV) (FS F3 F4 F5 : Nat → Prop), jj = x.funcs.length - k ∧ k ≤ x.funcs.length ∧ m = [(1, .ptr p0 0 0), (2, .ptr p1 0 0), (3, .ptr p2 0 0), (5, f), (6, .int .i64 (k : Nat))] ∧ SH s [ptC (.ptr p0 0 0) [vp, vg, va, vc, vf], ptC (.ptr p1 0 0) [.nils, .nils, .nils, .nils, .nils], ptC (.ptr p2 0 0) [r1, r2, cutA at27 0 x.arrays.length, r3, .nils], lfC F3 1 sC [.str markB] r1 x.principals, lfC F4 2 dC mkD r2 x.globals, lfC F5 2 dC mkD r3 x.channels, rowC at27 3 (x.arrays.map adC ++ [mkA]), bldC FunLF good_fun FS 6 f (x.funcs.take k)] z) x.funcs.length
  [(1, .ptr p0 0 0), (2, .ptr p1 0 0), (3, .ptr p2 0 0), (5, .nils), (6, .int .i64 ((0 : Nat) : Int))] (scn rfl (scn rfl (scn rfl (scn rfl (scn rfl (Sub.nil _)))))) ⟨0, .nils, _, _, _, _, by simp, by simp, rfl, hS⟩ ?_
 clear hS hK;rintro jj m z ⟨k, f, FS, F3, F4, F5, rfl, hk, rfl, hS⟩;have hK := hS.K;have hsf : vf.slen = some x.funcs.length := by rw [hrf.slen, hlf]
 refine aq2 ?_;refine wvz (oL 0 hS) ?_;refine wvz (oN hsf) ?_;refine aq1 ?_;refine wcd (fun h38 => ?_) (fun h38 => ?_)
 ·refine aq0 ?_;obtain ⟨y, hy⟩ : ∃ y, x.funcs[k]? = some y := ⟨_, gee (by omega)⟩;obtain ⟨cy, hcy⟩ : ∃ c, csf[k]? = some c := ⟨_, gee (by omega)⟩;obtain ⟨yp, yr, yv, yb, rfl, hyp, hyr, hyv, hyb⟩ := hF k y cy hy hcy;have hsy := hsm y (mog hy);obtain ⟨hy1, hy2, hy3, hy4, hy5⟩ := hsy;have hzy : ([.str y.name, .int .u64 y.level, yp, yr, yv, yb] : List AV).all AV.leaf = true := by
   obtain ⟨css, h5, -⟩ := id hyb;simp only [List.all_cons, List.all_nil, hyp.leaf, hyr.leaf, hyv.leaf, h5.leaf]; rfl
  have hrz := hrf.keep0 hK;refine aq1 ?_;refine wvz (oL 0 hS) ?_;refine aq1 ?_;refine wvz (oI hrz) ?_;refine wvz (oM (Row.pt hrz hcy)) ?_;refine ws_alloc hS rfl rfl rfl rfl ?_;rintro p8 z hS hk;have hS : SH _ [_, _, _, _, _, _, _, _, _] z := hS;refine ws_store 8 hS rfl rfl rfl rfl rfl rfl hzy (nl rfl) ?_;rintro z hS;have hS : SH _ [_, _, _, _, _, _, _, _, _] z := hS;have hK := hS.K;refine aq1 ?_;refine wvz (oL 8 hS) ?_;refine wkz (lentDecls_ok hK.ok hy1 (hyp.keep0 hK)) ?_;rintro q1 z ⟨hk, hl⟩;have hS := hS.add hk (lfC _ 2 dC mkD q1 y.params) hl (fun g h => ⟨h.1, h.2.1⟩);have hq1 : q1.leaf = true := hl.1.leaf;have hS : SH _ [_, _, _, _, _, _, _, _, _, _] z := hS;have hK := hS.K;clear hk hl;refine aq1 ?_;refine ws_storeL 8 hS rfl rfl rfl rfl rfl rfl (by assumption) (nl rfl) ?_;rintro z hS;have hS : SH _ [_, _, _, _, _, _, _, _, _, _] z := hS;have hK := hS.K;refine aq1 ?_;refine wvz (oL 8 hS) ?_;refine wkz (lentLabels_ok hK.ok hy2 (hyr.keep0 hK)) ?_;rintro q2 z ⟨hk, hl⟩;have hS := hS.add hk (lfC _ 1 lC [.int .u64 7171] q2 y.results) hl (fun g h => ⟨h.1, h.2.1⟩);have hq2 : q2.leaf = true := hl.1.leaf;have hS : SH _ [_, _, _, _, _, _, _, _, _, _, _] z := hS;have hK := hS.K;clear hk hl;refine aq1 ?_;refine ws_storeL 8 hS rfl rfl rfl rfl rfl rfl (by assumption) (nl rfl) ?_;rintro z hS;have hS : SH _ [_, _, _, _, _, _, _, _, _, _, _] z := hS;have hK := hS.K;refine aq1 ?_;refine wvz (oL 8 hS) ?_;refine wkz (lentDecls_ok hK.ok hy3 (hyv.keep0 hK)) ?_;rintro q3 z ⟨hk, hl⟩;have hS := hS.add hk (lfC _ 2 dC mkD q3 y.vars) hl (fun g h => ⟨h.1, h.2.1⟩);have hq3 : q3.leaf = true := hl.1.leaf;have hS : SH _ [_, _, _, _, _, _, _, _, _, _, _, _] z := hS;have hK := hS.K;clear hk hl;refine aq1 ?_;refine ws_storeL 8 hS rfl rfl rfl rfl rfl rfl (by assumption) (nl rfl) ?_;rintro z hS;have hS : SH _ [_, _, _, _, _, _, _, _, _, _, _, _] z := hS;have hK := hS.K;refine aq1 ?_;refine wvz (oL 8 hS) ?_;refine wkz (lentStmts_ok hK.ok hy4 hy5 (hyb.keep0 StmtR.keep0 hK)) ?_;rintro q4 z ⟨hk, hl⟩;have hS := hS.add hk (lrC good_stmt _ 4 mkS q4 y.body) hl (fun g h => ⟨h.1, h.2.1⟩);have hq4 : q4.leaf = true := (by obtain ⟨u, css, e, -, -, hr, hq, -⟩ := hl; rw [e]; exact (hr.less hq).leaf);have hS : SH _ [_, _, _, _, _, _, _, _, _, _, _, _, _] z := hS;have hK := hS.K;clear hk hl;refine aq1 ?_;refine ws_storeL 8 hS rfl rfl rfl rfl rfl rfl (by assumption) (nl rfl) ?_;rintro z hS;have hS : SH _ [_, _, _, _, _, _, _, _, _, _, _, _, _] z := hS;refine aq0 ?_;have hS : SH s [ptC (.ptr p0 0 0) [vp, vg, va, vc, vf], ptC (.ptr p1 0 0) [.nils, .nils, .nils, .nils, .nils], ptC (.ptr p2 0 0) [r1, r2, cutA at27 0 x.arrays.length, r3, .nils], lfC F3 1 sC [.str markB] r1 x.principals, lfC F4 2 dC mkD r2 x.globals, lfC F5 2 dC mkD r3 x.channels, rowC at27 3 (x.arrays.map adC ++ [mkA]), bldC FunLF good_fun FS 6 f (x.funcs.take k), ptC (.ptr p8 0 0) [.str y.name, .int .u64 y.level, q1, q2, q3, q4], _, _, _, _] z := hS;have hzq : ([.str y.name, .int .u64 y.level, q1, q2, q3, q4] : List AV).all AV.leaf = true := by
   simp only [List.all_cons, List.all_nil, hq1, hq2, hq3, hq4]; rfl
  refine aq1 ?_;refine wvz (v := .agg [.str y.name, .int .u64 y.level, q1, q2, q3, q4]) (oL 8 hS) ?_;refine ws_lit1 (c := [.str y.name, .int .u64 y.level, q1, q2, q3, q4]) hS rfl rfl rfl rfl rfl rfl rfl rfl (by decide) (by decide) rfl hzq rfl ?_;rintro lt64 z hS hk hlt64;have g1 := hS.get 9 rfl;have g2 := hS.get 10 rfl;have g3 := hS.get 11 rfl;have g4 := hS.get 12 rfl;have hS := hS.mrg 9 10 (by decide) rfl rfl (anyC _) trivial (fun g h => h);have hS := hS.mrg 9 11 (by decide) rfl rfl (anyC _) trivial (fun g h => h);have hS := hS.mrg 9 12 (by decide) rfl rfl (thC good_fun _ y [.str y.name, .int .u64 y.level, q1, q2, q3, q4]) ⟨q1, q2, q3, q4, rfl, g1.mono fun g h => .inl (.inl (.inl h)), g2.mono fun g h => .inl (.inl (.inr h)), g3.mono fun g h => .inl (.inr h), g4.mono good_stmt fun g h => .inr h⟩ (fun g h => h);refine ws_app_bld 7 9 (by decide) hS rfl rfl rfl rfl rfl rfl rfl rfl rfl rfl rfl rfl (by decide) hlt64 (hS.get 9 rfl) (by (simp only [List.length_take, maxBytes]; omega)) (by (simp only [List.length_take, maxBytes]; omega)) ?_;rintro at65 z FS' hS;rw [take_snoc hy] at hS;have hS : SH s [ptC (.ptr p0 0 0) [vp, vg, va, vc, vf], ptC (.ptr p1 0 0) [.nils, .nils, .nils, .nils, .nils], ptC (.ptr p2 0 0) [r1, r2, cutA at27 0 x.arrays.length, r3, .nils], lfC F3 1 sC [.str markB] r1 x.principals, lfC F4 2 dC mkD r2 x.globals, lfC F5 2 dC mkD r3 x.channels, rowC at27 3 (x.arrays.map adC ++ [mkA]), bldC FunLF good_fun FS' 6 at65 (x.funcs.take (k + 1))] z := hS.sel [0, 1, 2, 3, 4, 5, 6, 7] rfl (by decide);refine aq2 ?_;refine wad ?_;refine aq1 ?_;exact rn ⟨k + 1, at65, FS', F3, F4, F5, rfl, by omega, rfl, hS⟩
 obtain rfl : k = x.funcs.length := by omega
 rw [List.take_length] at hS;refine aq2 ?_;refine ws_lit1 hS rfl rfl rfl rfl rfl rfl rfl rfl (by decide) (by decide) rfl (by rfl) rfl ?_;rintro lt68 z hS hk hlt68;refine ws_app_mkB (c := mkU) 7 hS rfl rfl rfl rfl rfl rfl rfl rfl rfl rfl rfl (by decide) hlt68 (by (simp only [maxBytes]; omega)) (by (simp only [maxBytes]; omega)) ?_;rintro at69 z FU hS;have hS : SH _ [_, _, _, _, _, _, _, _] z := hS;refine aq3 ?_;refine wvz (oL 0 hS) ?_;refine wvz (oN hsf) ?_;obtain ⟨hune, huF, csu, hru, hlu, hXu⟩ := hS.get 7 rfl;refine wvz (op_cut (l := none) (h := some x.funcs.length) (l' := 0) (h' := x.funcs.length) rfl rfl (optY_some rfl (natA_cast _ _)) rfl rfl rfl rfl hru rfl rfl (Nat.zero_le _) (by simp; omega)) ?_;have hl74 : (cutA at69 0 x.funcs.length).leaf = true := (hru.less hlu).leaf;refine aq1 ?_;refine ws_storeL 2 hS rfl rfl rfl rfl rfl rfl hl74 (nl rfl) ?_;rintro z hS;have hS : SH _ [_, _, _, _, _, _, _, _] z := hS;refine aq0 ?_;obtain ⟨hune, huF, csu, hru, hlu, hXu⟩ := hS.get 7 rfl;have hl6 : (cutA at27 0 x.arrays.length).leaf = true := ((hS.row 6 rfl).less (by simp)).leaf;have hl7 : (cutA at69 0 x.funcs.length).leaf = true := ((hru.less hlu).leaf);have hzz : ([r1, r2, cutA at27 0 x.arrays.length, r3, cutA at69 0 x.funcs.length] : List AV).all AV.leaf = true := by
  simp only [List.all_cons, List.all_nil, hr1, hr2, hr3, hl6, hl7]; rfl
 refine aq0 ?_;refine wvz (oL 2 hS) ?_;refine ws_store 1 hS rfl rfl rfl rfl rfl rfl hzz (nl rfl) ?_;rintro z hS;have hS : SH _ [_, _, _, _, _, _, _, _] z := hS;refine aq0 ?_;have b3 := hS.bd 3 rfl;have b4 := hS.bd 4 rfl;have b5 := hS.bd 5 rfl;have b6 := hS.bd 6 rfl;have b7 := hS.bd 7 rfl;obtain ⟨hune, huF, csu, hru, hlu, hXu⟩ := hS.get 7 rfl;have hne : at27.gs ≠ [] := fun e => by
  have h1 := hS.nls 6 rfl e;have h2 := hS.row 6 rfl;rw [h1] at h2;simp [Row] at h2
 exact ⟨_, res_cell rfl rfl (hS.pt 1 rfl) rfl, hS.K, _, rfl, _, _, _, _, _, rfl, (hS.get 3 rfl).mono fun g h => ⟨(b3 g h).1, (b3 g h).2, fun h => by cases h⟩, (hS.get 4 rfl).mono fun g h => ⟨(b4 g h).1, (b4 g h).2, fun h => by cases h⟩,
   ⟨⟨at27, rfl, hne, hS.row 6 rfl⟩, by rw [cutA_gs]; exact fun g h => ⟨(b6 g h).1, (b6 g h).2, fun h => by cases h⟩⟩, (hS.get 5 rfl).mono fun g h => ⟨(b5 g h).1, (b5 g h).2, fun h => by cases h⟩,
   at69, csu, rfl, hune, fun g h => ⟨(b7 g (huF g h)).1, (b7 g (huF g h)).2, fun h => by cases h⟩, hru, hlu, fun i x c h1 h2 => good_fun.mono (hXu i x c h1 h2) fun g h => ⟨(b7 g h).1, (b7 g h).2, fun h => by cases h⟩⟩
end Go.Ab
namespace Go.Ab
open Go.Proofs
theorem decls_same {s : St} {a b : AV} {xs : List DeclL} (hl : xs.length ≤ 2097152) (ha : Row s.h 2 a (xs.map dC)) (hb : Row s.h 2 b (xs.map dC)) :
  CallS Try.prog Tt Kt 77 [a, b] s (fun v s' => s' = s ∧ v = .bool true) := by
 refine cof 26 Try.func77 ?_;refine aq2 ?_;refine wvz (op_len rfl rfl rfl rfl rfl (Row.slenF (by assumption))) ?_;refine aq1 ?_;refine wvz (op_len rfl rfl rfl rfl rfl (Row.slenF (by assumption))) ?_;refine aq1 ?_;refine wc_condT rfl (fun h10 => ?_) (fun h10 => ?_)
 ·simp at h10
 refine aq1 ?_;refine wc_loop_at (fun j m s' => ∃ i : Nat, j = xs.length - i ∧ i ≤ xs.length ∧ s' = s ∧ m = [(0, a), (1, b), (5, .int .i64 (i : Nat))]) xs.length
  [(0, a), (1, b), (5, .int .i64 ((0 : Nat) : Int))] (scn rfl (scn rfl (scn rfl (Sub.nil _)))) ⟨0, by simp, by simp, rfl, rfl⟩ ?_
 rintro j m sX ⟨i, rfl, hi, eX, rfl⟩;obtain rfl := eX.symm;refine aq2 ?_;refine wvz (op_len rfl rfl rfl rfl rfl (Row.slenF (by assumption))) ?_;refine aq1 ?_;refine wc_condT rfl (fun h14 => ?_) (fun h14 => ?_)
 ·simp at h14;refine aq0 ?_;obtain ⟨x, hx⟩ : ∃ x, xs[i]? = some x := ⟨_, gee h14⟩;refine wc_draw (fun _ => True) (by kernel_rfl) rfl ?_;refine aq2 ?_;refine wdv (op_idxF rfl rfl (natA_cast _ _) rfl rfl rfl rfl (by assumption) (by omega)) ?_;refine wdv (op_load rfl rfl (Row.mk_pt (by assumption) (by assumption)) rfl) ?_;refine aq2 ?_;refine wdv (op_idxF rfl rfl (natA_cast _ _) rfl rfl rfl rfl (by assumption) (by omega)) ?_;refine wdv (op_load rfl rfl (Row.mk_pt (by assumption) (by assumption)) rfl) ?_;refine aq1 ?_;refine wc_condT rfl (fun h25 => ?_) (fun h25 => ?_)
  ·simp [ba_refl] at h25
  refine aq1 ?_;refine wad ?_;refine aq1 ?_;exact rn ⟨i + 1, rfl, by omega, rfl, rfl⟩
 simp at h14;refine aq1 ?_;exact ⟨_, rfl, rfl, rfl⟩
theorem keptDecls_ok {s : St} {a b : AV} {xs : List DeclL} (hl : xs.length ≤ 2097152) (ha : Lent s.h 2 dC mkD a xs) (hb : Row s.h 2 b (xs.map dC)) :
  CallS Try.prog Tt Kt 33 [a, b] s (fun v s' => s' = s ∧ v = .bool true) := by
 have hra := ha.row;obtain ⟨u, rfl, hu, hr⟩ := ha;have hw := Lent.more hr;have hpt := hw.mk_pt';refine cof 21 Try.func33 ?_;refine aq3 ?_;refine wkz (decls_same hl hra hb) ?_;rintro _ sX ⟨eX, rfl⟩;obtain rfl := eX.symm;refine aq3 ?_;refine wvz (op_len rfl rfl rfl rfl rfl (Row.slenF (by assumption))) ?_;refine wad ?_;refine wvz (op_recut rfl rfl (natA_succ _ _) rfl rfl rfl rfl hr hu (by simp)) ?_;refine aq1 ?_;refine wvz (op_len rfl rfl rfl rfl rfl (Row.slenF (by assumption))) ?_;refine wvz (op_idx rfl rfl (natA_cast _ _) rfl rfl rfl rfl (by assumption) (by (simp; done))) ?_;refine wvz (op_fld rfl rfl rfl rfl (by decide) (by assumption) (nl rfl)) ?_;refine wvz (op_load rfl rfl (Pt.fld (by assumption) _ (nl rfl)) rfl) ?_;refine aq3 ?_;exact ⟨_, rfl, rfl, congrArg AV.bool (beq_self_eq_true _)⟩
end Go.Ab
namespace Go.Ab
open Go.Proofs
theorem elemA_sub {v : AV} {i g : Nat} (h : g ∈ (elemA v i).gs) : g ∈ v.gs := by
 cases v with
 | slc => exact h
 | ro nl xs => exact absurd (show g ∈ (elemA (.ro nl xs) i).gs from h) (by unfold elemA; simp only; cases xs[i]? <;> simp [AV.gs])
 | _ => first | exact h | cases h
theorem termsR_keep {s s' : St} {x : List TermL} {c : List AV} (h : TermsR s.h x c) (k : Keep [] s s') : TermsR s'.h x c := by
 obtain ⟨v, rfl, hv⟩ := h;exact ⟨v, rfl, hv.keep0 k⟩
theorem stmtR_keep {s s' : St} {x : StmtL} {c : List AV} (h : StmtR s.h x c) (k : Keep [] s s') : StmtR s'.h x c := by
 obtain ⟨vt, ve, rfl, h1, h2⟩ := h;exact ⟨vt, ve, rfl, h1.keep0 k, RowR.keep0 termsR_keep h2 k⟩
theorem source_same {s : St} {c c' : List AV} {x : SrcL} (hok : s.Ok) (hx : x.small) (ha : SrcR s.h x c) (hb : SrcR s.h x c') :
  CallS Try.prog Tt Kt 31 [.agg c, .agg c'] s fun r s' => Keep [] s s' ∧ r = .bool true := by
 obtain ⟨vp, vg, va, vc, vf, rfl, hvp, hvg, hva, hvc, csf, hrf, hlf, hF⟩ := id ha;obtain ⟨wp, wg, wa, wc, wf, rfl, hwp, hwg, hwa, hwc, csw, hrw, hlw, hG⟩ := id hb;obtain ⟨hl1, hl2, hl3, hl4, hl5, hsm⟩ := id hx;have hza : ([vp, vg, va, vc, vf] : List AV).all AV.leaf = true := by
  simp only [List.all_cons, List.all_nil, hvp.leaf, hvg.leaf, hva.leaf, hvc.leaf, hrf.leaf]; rfl
 have hzb : ([wp, wg, wa, wc, wf] : List AV).all AV.leaf = true := by
  simp only [List.all_cons, List.all_nil, hwp.leaf, hwg.leaf, hwa.leaf, hwc.leaf, hrw.leaf]; rfl
 have hsa1 : va.slen = some x.arrays.length := hva.slenF;have hsa2 : wa.slen = some x.arrays.length := hwa.slenF;have hsf1 : vf.slen = some x.funcs.length := by rw [hrf.slen, hlf]
 have hsf2 : wf.slen = some x.funcs.length := by rw [hrw.slen, hlw]
 refine cof 128 Try.func31 ?_;refine aq0 ?_;have hS := SH.start hok;refine aq0 ?_;refine ws_box hS rfl rfl rfl hza ?_;rintro p0 z hS hk;have hS : SH _ [_] z _ := hS;refine ws_box hS rfl rfl rfl hzb ?_;rintro p1 z hS hk;have hS : SH _ [_, _] z _ := hS;refine aq1 ?_;have hS : SH s [ptC (.ptr p0 0 0) [vp, vg, va, vc, vf], ptC (.ptr p1 0 0) [wp, wg, wa, wc, wf]] z := hS;have hK := hS.K;refine aq1 ?_;refine wvz (v := vp) (oL 0 hS) ?_;refine aq1 ?_;refine wvz (v := wp) (oL 1 hS) ?_;refine wkz (strings_same hl1 (hvp.keep0 hK) (hwp.keep0 hK)) ?_;rintro _ sX ⟨eX, rfl⟩;obtain rfl := eX.symm;refine aq3 ?_;refine wvz (v := vg) (oL 0 hS) ?_;refine aq1 ?_;refine wvz (v := wg) (oL 1 hS) ?_;refine wkz (decls_same hl2 (hvg.keep0 hK) (hwg.keep0 hK)) ?_;rintro _ sX ⟨eX, rfl⟩;obtain rfl := eX.symm;refine aq4 ?_;refine wvz (v := vc) (oL 0 hS) ?_;refine aq1 ?_;refine wvz (v := wc) (oL 1 hS) ?_;refine wkz (decls_same hl4 (hvc.keep0 hK) (hwc.keep0 hK)) ?_;rintro _ sX ⟨eX, rfl⟩;obtain rfl := eX.symm;refine aq4 ?_;refine wvz (v := va) (oL 0 hS) ?_;refine wvz (oN hsa1) ?_;refine aq1 ?_;refine wvz (v := wa) (oL 1 hS) ?_;refine wvz (oN hsa2) ?_;refine aq3 ?_;refine w_split (i := 40) rfl (fun h40 => ?_) (fun h40 => ?_)
 ·simp at h40
 refine aq1 ?_;refine wvz (v := vf) (oL 0 hS) ?_;refine wvz (oN hsf1) ?_;refine aq1 ?_;refine wvz (v := wf) (oL 1 hS) ?_;refine wvz (oN hsf2) ?_;refine aq2 ?_;refine wc_condT rfl (fun h48 => ?_) (fun h48 => ?_)
 ·simp at h48
 refine aq1 ?_;refine wc_loop_at (fun jj m z => ∃ i : Nat, jj = x.arrays.length - i ∧ i ≤ x.arrays.length ∧ m = [(2, .ptr p0 0 0), (3, .ptr p1 0 0), (5, .int .i64 (i : Nat))] ∧ SH s [ptC (.ptr p0 0 0) [vp, vg, va, vc, vf], ptC (.ptr p1 0 0) [wp, wg, wa, wc, wf]] z) x.arrays.length
  [(2, .ptr p0 0 0), (3, .ptr p1 0 0), (5, .int .i64 ((0 : Nat) : Int))] (scn rfl (scn rfl (scn rfl (Sub.nil _)))) ⟨0, by simp, by simp, rfl, hS⟩ ?_
 clear hS hK;rintro jj m z ⟨i, rfl, hi, rfl, hS⟩;have hK := hS.K;refine aq2 ?_;refine wvz (v := va) (oL 0 hS) ?_;refine wvz (oN hsa1) ?_;refine aq1 ?_;refine wcd (fun h53 => ?_) (fun h53 => ?_)
 ·obtain ⟨d, hd⟩ : ∃ d, x.arrays[i]? = some d := ⟨_, gee (by omega)⟩;refine aq0 ?_;refine wc_draw (fun _ => True) (by kernel_rfl) rfl ?_;refine wdv (op_fldP rfl rfl rfl rfl (by decide)) ?_;refine wdv (v := va) (oM (Pt.bare ((hS.pt 0 rfl).at (nl rfl)))) ?_;refine aq1 ?_;refine wdv (op_idxF rfl rfl (natA_cast _ _) rfl rfl rfl rfl (Row.bare (Row.keep0 (by assumption) hK)) (by omega)) ?_;refine wdv (op_load rfl rfl (Pt.bare (Pt.keep0 (Row.mk_pt (by assumption) (by assumption)) hK)) rfl) ?_;refine wdv (op_fldP rfl rfl rfl rfl (by decide)) ?_;refine wdv (v := wa) (oM (Pt.bare ((hS.pt 1 rfl).at (nl rfl)))) ?_;refine aq1 ?_;refine wdv (op_idxF rfl rfl (natA_cast _ _) rfl rfl rfl rfl (Row.bare (Row.keep0 (by assumption) hK)) (by omega)) ?_;refine wdv (op_load rfl rfl (Pt.bare (Pt.keep0 (Row.mk_pt (by assumption) (by assumption)) hK)) rfl) ?_;refine aq1 ?_;refine wc_condT rfl (fun h66 => ?_) (fun h66 => ?_)
  ·simp [ba_refl] at h66
  refine aq1 ?_;refine wad ?_;refine aq1 ?_;exact rn ⟨i + 1, rfl, by omega, rfl, hS⟩
 refine aq1 ?_;refine wc_loop_at (fun jj m z => ∃ i : Nat, jj = x.funcs.length - i ∧ i ≤ x.funcs.length ∧ m = [(2, .ptr p0 0 0), (3, .ptr p1 0 0), (6, .int .i64 (i : Nat))] ∧ SH s [ptC (.ptr p0 0 0) [vp, vg, va, vc, vf], ptC (.ptr p1 0 0) [wp, wg, wa, wc, wf]] z) x.funcs.length
  [(2, .ptr p0 0 0), (3, .ptr p1 0 0), (6, .int .i64 ((0 : Nat) : Int))] (scn rfl (scn rfl (scn rfl (Sub.nil _)))) ⟨0, by simp, by simp, rfl, hS⟩ ?_
 clear hS hK;rintro jj m z ⟨i, rfl, hi, rfl, hS⟩;have hK := hS.K;refine aq2 ?_;refine wvz (v := vf) (oL 0 hS) ?_;refine wvz (oN hsf1) ?_;refine aq1 ?_;refine wcd (fun h71 => ?_) (fun h71 => ?_)
 ·obtain ⟨y, hy⟩ : ∃ y, x.funcs[i]? = some y := ⟨_, gee (by omega)⟩;obtain ⟨cy, hcy⟩ : ∃ c, csf[i]? = some c := ⟨_, gee (by omega)⟩;obtain ⟨cw, hcw⟩ : ∃ c, csw[i]? = some c := ⟨_, gee (by omega)⟩;obtain ⟨yp, yr, yv, yb, rfl, hyp, hyr, hyv, hyb⟩ := hF i y cy hy hcy;obtain ⟨wp', wr', wv', wb', rfl, hwp', hwr', hwv', hwb'⟩ := hG i y cw hy hcw;obtain ⟨hy1, hy2, hy3, hy4, hy5⟩ := id (hsm y (mog hy));obtain ⟨csb, hbr, -, -⟩ := id hyb;obtain ⟨csb', hbr', -, -⟩ := id hwb';have hyz : ([.str y.name, .int .u64 y.level, yp, yr, yv, yb] : List AV).all AV.leaf = true := by
   simp only [List.all_cons, List.all_nil, hyp.leaf, hyr.leaf, hyv.leaf, hbr.leaf]; rfl
  have hwz : ([.str y.name, .int .u64 y.level, wp', wr', wv', wb'] : List AV).all AV.leaf = true := by
   simp only [List.all_cons, List.all_nil, hwp'.leaf, hwr'.leaf, hwv'.leaf, hbr'.leaf]; rfl
  refine aq0 ?_;refine wc_early2 (k := 10) (k' := 11) (cs := tz Tt 69) (cs' := tz Tt 69) (fun p7 p8 => [none, none, none, none, none, none, none, none, none, none, some (p7, tz Tt 69), some (p8, tz Tt 69), none, none]) hS (by kernel_rfl) (fun _ => rfl) ?_;clear hS;rintro p7 p8 z hS ⟨hcE, hcE2, hneE⟩ hR;have hS : SH _ [_, _, _, _] z _ := hS;have hK := hS.K;refine we_val (fun _ => rfl) rfl rfl (op_fldP rfl rfl rfl rfl (by decide)) ?_;refine we_load hR (v := vf) rfl rfl ((hS.pt 0 rfl).at (nl rfl)) rfl (hS.off2 (i := 0) (j := 2) (k := 3) (by decide) (by decide) rfl rfl rfl) rfl rfl ?_;refine we_val (fun _ => rfl) rfl rfl (op_pure rfl) ?_;refine we_val (fun _ => rfl) rfl rfl (op_idx rfl rfl (natA_cast _ _) rfl rfl rfl rfl (Row.bare (hrf.keep0 (hK.trans hR (fun _ h => by cases h)))) (by omega)) ?_;refine we_load hR (v := .agg [.str y.name, .int .u64 y.level, yp, yr, yv, yb]) rfl rfl (Row.pt (hrf.keep0 hK) hcy) rfl (by
    intro g hg hX;have h1 := hrf.lt hok g (elemA_sub hg);have h8 := (hS.bd 2 rfl p7 (msi.2 rfl)).1;have h9 := (hS.bd 3 rfl p8 (msi.2 rfl)).1;simp only [List.mem_cons, nmn, or_false] at hX;omega) rfl rfl ?_
  refine we_val (fun _ => rfl) rfl rfl (op_fldP rfl rfl rfl rfl (by decide)) ?_;refine we_load hR (v := wf) rfl rfl ((hS.pt 1 rfl).at (nl rfl)) rfl (hS.off2 (i := 1) (j := 2) (k := 3) (by decide) (by decide) rfl rfl rfl) rfl rfl ?_;refine we_val (fun _ => rfl) rfl rfl (op_pure rfl) ?_;refine we_val (fun _ => rfl) rfl rfl (op_idx rfl rfl (natA_cast _ _) rfl rfl rfl rfl (Row.bare (hrw.keep0 (hK.trans hR (fun _ h => by cases h)))) (by omega)) ?_;refine we_load hR (v := .agg [.str y.name, .int .u64 y.level, wp', wr', wv', wb']) rfl rfl (Row.pt (hrw.keep0 hK) hcw) rfl (by
    intro g hg hX;have h1 := hrw.lt hok g (elemA_sub hg);have h8 := (hS.bd 2 rfl p7 (msi.2 rfl)).1;have h9 := (hS.bd 3 rfl p8 (msi.2 rfl)).1;simp only [List.mem_cons, nmn, or_false] at hX;omega) rfl rfl ?_
  refine we_alloc rfl (.head _) ?_;refine we_alloc rfl (.tail _ (.head _)) ?_;refine we_store (old := tz Tt 69) (.head _) hR.ok (ah2a hneE (by kernel_rfl)) rfl rfl rfl rfl rfl rfl (by assumption) ((hS.pt 2 rfl).keep0 hR) ?_;rintro sE0 hpE0 hkE0;refine we_store (old := tz Tt 69) (.tail _ (.head _)) hkE0.ok (ah2b hneE (by kernel_rfl)) rfl rfl rfl rfl rfl rfl (by assumption) (Pt.keep ((hS.pt 3 rfl).keep0 hR) hkE0 (by simp [AV.gs, hneE.symm])) ?_;rintro sE1 hpE1 hkE1;refine we_nil ?_;have hS := hS.mov hR;have hS := hS.upd 2 rfl hkE0 (fun g hg => hg) (ptC (.ptr p7 0 0) _) hpE0 (fun g hg => .inl hg);have hS := hS.upd 3 rfl hkE1 (fun g hg => hg) (ptC (.ptr p8 0 0) _) hpE1 (fun g hg => .inl hg);generalize sE1 = z at hS ⊢;have hS : SH _ [_, _, _, _] z _ := hS;have hK := hS.K;refine aq1 ?_;refine wvz (v := .str y.name) (oL 2 hS) ?_;refine aq1 ?_;refine wvz (v := .str y.name) (oL 3 hS) ?_;refine aq2 ?_;refine w_split (i := 89) rfl (fun h89 => ?_) (fun h89 => ?_)
  ·simp [] at h89
  refine aq1 ?_;refine wvz (v := .int .u64 y.level) (oL 2 hS) ?_;refine aq1 ?_;refine wvz (v := .int .u64 y.level) (oL 3 hS) ?_;refine aq3 ?_;refine w_split (i := 96) rfl (fun h96 => ?_) (fun h96 => ?_)
  ·simp at h96
  refine aq1 ?_;refine wvz (v := yp) (oL 2 hS) ?_;refine aq1 ?_;refine wvz (v := wp') (oL 3 hS) ?_;refine wkz (decls_same hy1 (hyp.keep0 hK) (hwp'.keep0 hK)) ?_;rintro _ sX ⟨eX, rfl⟩;obtain rfl := eX.symm;refine aq4 ?_;refine wvz (v := yr) (oL 2 hS) ?_;refine aq1 ?_;refine wvz (v := wr') (oL 3 hS) ?_;refine wkz (labels_same hy2 (hyr.keep0 hK) (hwr'.keep0 hK)) ?_;rintro _ sX ⟨eX, rfl⟩;obtain rfl := eX.symm;refine aq4 ?_;refine wvz (v := yv) (oL 2 hS) ?_;refine aq1 ?_;refine wvz (v := wv') (oL 3 hS) ?_;refine wkz (decls_same hy3 (hyv.keep0 hK) (hwv'.keep0 hK)) ?_;rintro _ sX ⟨eX, rfl⟩;obtain rfl := eX.symm;refine aq4 ?_;refine wvz (v := yb) (oL 2 hS) ?_;refine aq1 ?_;refine wvz (v := wb') (oL 3 hS) ?_;refine wkz (stmts_same hy4 hy5 (RowR.keep0 stmtR_keep hyb hK) (RowR.keep0 stmtR_keep hwb' hK)) ?_;rintro _ sX ⟨eX, rfl⟩;obtain rfl := eX.symm;refine aq2 ?_;refine wc_cond_f rfl ?_;refine aq1 ?_;refine wad ?_;refine aq1 ?_;have hS : SH s [ptC (.ptr p0 0 0) [vp, vg, va, vc, vf], ptC (.ptr p1 0 0) [wp, wg, wa, wc, wf]] z := hS.sub (.cons_cons _ (.cons_cons _ (.cons _ (.cons _ (.refl _)))));exact rn ⟨i + 1, rfl, by omega, rfl, hS⟩
 refine aq1 ?_;exact ⟨_, rfl, hK, rfl⟩
end Go.Ab
namespace Go.Ab
open Go.Proofs
theorem Lent.keep0 {α : Type} {s s' : St} {sz : Nat} {f : α → List AV} {mk : List AV} {v : AV} {xs : List α} (k : Lent s.h sz f mk v xs) (h : Keep [] s s') : Lent s'.h sz f mk v xs := k.keep h fun _ _ h => by cases h
theorem LentR.keep0 {α : Type} {R : Tr Grp → α → List AV → Prop} (hR : ∀ {s s' : St} {x : α} {c : List AV}, R s.h x c → Keep [] s s' → R s'.h x c) {s s' : St} {sz : Nat} {mk : List AV} {v : AV} {xs : List α} (k : LentR s.h sz R mk v xs) (h : Keep [] s s') : LentR s'.h sz R mk v xs := by
 obtain ⟨u, css, rfl, hu, hr, hl, hx⟩ := k;exact ⟨u, css, rfl, hu, hr.keep0 h, hl, fun i x c h1 h2 => hR (hx i x c h1 h2) h⟩
theorem termsLR_keep {s s' : St} {x : List TermL} {c : List AV} (h : TermsLR s.h x c) (k : Keep [] s s') : TermsLR s'.h x c := by
 obtain ⟨v, rfl, hv⟩ := h;exact ⟨v, rfl, hv.keep0 k⟩
theorem stmtLR_keep {s s' : St} {x : StmtL} {c : List AV} (h : StmtLR s.h x c) (k : Keep [] s s') : StmtLR s'.h x c := by
 obtain ⟨vt, ve, rfl, h1, h2⟩ := h;exact ⟨vt, ve, rfl, h1.keep0 k, LentR.keep0 termsLR_keep h2 k⟩
theorem funR_keep {s s' : St} {x : FunL} {c : List AV} (h : FunR s.h x c) (k : Keep [] s s') : FunR s'.h x c := by
 obtain ⟨vp, vr, vv, vb, rfl, h1, h2, h3, h4⟩ := h;exact ⟨vp, vr, vv, vb, rfl, h1.keep0 k, h2.keep0 k, h3.keep0 k, RowR.keep0 stmtR_keep h4 k⟩
theorem srcR_keep {s s' : St} {x : SrcL} {c : List AV} (h : SrcR s.h x c) (k : Keep [] s s') : SrcR s'.h x c := by
 obtain ⟨vp, vg, va, vc, vf, rfl, h1, h2, h3, h4, h5⟩ := h;exact ⟨vp, vg, va, vc, vf, rfl, h1.keep0 k, h2.keep0 k, h3.keep0 k, h4.keep0 k, RowR.keep0 funR_keep h5 k⟩
theorem keptSource_ok {s : St} {c c' : List AV} {x : SrcL} (hok : s.Ok) (hx : x.small) (ha : SrcLR s.h x c) (hb : SrcR s.h x c') :
  CallS Try.prog Tt Kt 9 [.agg c, .agg c'] s fun r s' => Keep [] s s' ∧ r = .bool true := by
 have hsa := SrcLR.to x _ ha;obtain ⟨vp, vg, va, vc, vf, rfl, hvp, hvg, hva, hvc, hvf⟩ := id ha;obtain ⟨wp, wg, wa, wc, wf, rfl, hwp, hwg, hwa, hwc, csw, hrw, hlw, hG⟩ := id hb;obtain ⟨hl1, hl2, hl3, hl4, hl5, hsm⟩ := id hx;have hla := hva.row.leaf;obtain ⟨ua, rfl, hua, hra⟩ := id hva;have hma := Lent.more hra;have hpa := hma.mk_pt';obtain ⟨uf, csu, rfl, huf, hruf, hluf, hFU⟩ := id hvf;have hrl := hruf.less hluf;have hmf := hruf.more hluf;have hpf := hmf.mark hluf;have hza : ([vp, vg, cutA ua 0 x.arrays.length, vc, cutA uf 0 x.funcs.length] : List AV).all AV.leaf = true := by
  simp only [List.all_cons, List.all_nil, hvp.leaf, hvg.leaf, hla, hvc.leaf, hrl.leaf]; rfl
 have hzb : ([wp, wg, wa, wc, wf] : List AV).all AV.leaf = true := by
  simp only [List.all_cons, List.all_nil, hwp.leaf, hwg.leaf, hwa.leaf, hwc.leaf, hrw.leaf]; rfl
 have hsa2 : wa.slen = some x.arrays.length := hwa.slenF;have hsf2 : wf.slen = some x.funcs.length := by rw [hrw.slen, hlw]
 refine cof 113 Try.func9 ?_;refine aq0 ?_;have hS := SH.start hok;refine aq0 ?_;refine ws_box hS rfl rfl rfl hza ?_;rintro p0 z hS hk;have hS : SH _ [_] z _ := hS;refine ws_box hS rfl rfl rfl hzb ?_;rintro p1 z hS hk;have hS : SH _ [_, _] z _ := hS;refine aq1 ?_;have hS : SH s [ptC (.ptr p0 0 0) [vp, vg, cutA ua 0 x.arrays.length, vc, cutA uf 0 x.funcs.length], ptC (.ptr p1 0 0) [wp, wg, wa, wc, wf]] z := hS;have hK := hS.K;refine aq0 ?_;refine wc_draw (fun _ => True) (by kernel_rfl) rfl ?_;refine wdv (op_fldP rfl rfl rfl rfl (by decide)) ?_;refine wdv (v := wa) (oM (Pt.bare ((hS.pt 1 rfl).at (nl rfl)))) ?_;refine wdv (oN hsa2) ?_;refine wdv (op_fldP rfl rfl rfl rfl (by decide)) ?_;refine wdv (v := wf) (oM (Pt.bare ((hS.pt 1 rfl).at (nl rfl)))) ?_;refine wdv (oN hsf2) ?_;refine aq2 ?_;refine wvz (v := .agg [vp, vg, cutA ua 0 x.arrays.length, vc, cutA uf 0 x.funcs.length]) (oL 0 hS) ?_;refine wvz (v := .agg [wp, wg, wa, wc, wf]) (oL 1 hS) ?_;refine wkz (source_same hS.ok hx (srcR_keep hsa hK) (srcR_keep hb hK)) ?_;rintro _ z ⟨hk, rfl⟩;have hS := hS.mov hk;have hK := hS.K;refine aq3 ?_;refine wvz (v := vp) (oL 0 hS) ?_;refine aq1 ?_;refine wvz (v := wp) (oL 1 hS) ?_;refine wkz (keptStrings_ok hl1 (hvp.keep0 hK) (hwp.keep0 hK)) ?_;rintro _ sX ⟨eX, rfl⟩;obtain rfl := eX.symm;refine aq4 ?_;refine wvz (v := vg) (oL 0 hS) ?_;refine aq1 ?_;refine wvz (v := wg) (oL 1 hS) ?_;refine wkz (keptDecls_ok hl2 (hvg.keep0 hK) (hwg.keep0 hK)) ?_;rintro _ sX ⟨eX, rfl⟩;obtain rfl := eX.symm;refine aq4 ?_;refine wvz (v := vc) (oL 0 hS) ?_;refine aq1 ?_;refine wvz (v := wc) (oL 1 hS) ?_;refine wkz (keptDecls_ok hl4 (hvc.keep0 hK) (hwc.keep0 hK)) ?_;rintro _ sX ⟨eX, rfl⟩;obtain rfl := eX.symm;refine aq4 ?_;refine wvz (v := cutA ua 0 x.arrays.length) (oL 0 hS) ?_;refine aq1 ?_;refine wad ?_;refine wvz (op_recut rfl rfl (natA_succ _ _) rfl rfl rfl rfl (hra.keep0 hK) hua (by simp)) ?_;refine aq1 ?_;refine wvz (op_idx rfl rfl (natA_cast _ _) rfl rfl rfl rfl (hma.keep0 hK) (by simp)) ?_;refine wvz (oF (Pt.keep0 hpa hK)) ?_;refine wvz (v := .str markB) (oM (Pt.fld (Pt.keep0 hpa hK) _ (nl rfl))) ?_;refine aq3 ?_;refine w_split (i := 56) rfl (fun h56 => ?_) (fun h56 => ?_)
 ·simp [markB] at h56
 refine aq1 ?_;refine wvz (v := cutA uf 0 x.funcs.length) (oL 0 hS) ?_;refine aq1 ?_;refine wad ?_;refine wvz (op_recut rfl rfl (natA_succ _ _) rfl rfl rfl rfl (hruf.keep0 hK) huf (by simp; omega)) ?_;refine aq1 ?_;refine wvz (op_idx rfl rfl (natA_cast _ _) rfl rfl rfl rfl (hmf.keep0 hK) (by simp; omega)) ?_;refine wvz (oF (Pt.keep0 hpf hK)) ?_;refine wvz (v := .str markB) (oM (Pt.fld (Pt.keep0 hpf hK) _ (nl rfl))) ?_;refine aq2 ?_;refine wc_condT rfl (fun h67 => ?_) (fun h67 => ?_)
 ·simp [markB] at h67
 refine aq1 ?_;refine wc_loop_at (fun jj m z => ∃ i : Nat, jj = x.funcs.length - i ∧ i ≤ x.funcs.length ∧ m = [(2, .ptr p0 0 0), (3, .ptr p1 0 0), (6, .int .i64 (x.funcs.length : Nat)), (7, .int .i64 (i : Nat))] ∧ SH s [ptC (.ptr p0 0 0) [vp, vg, cutA ua 0 x.arrays.length, vc, cutA uf 0 x.funcs.length], ptC (.ptr p1 0 0) [wp, wg, wa, wc, wf]] z) x.funcs.length
  [(2, .ptr p0 0 0), (3, .ptr p1 0 0), (6, .int .i64 (x.funcs.length : Nat)), (7, .int .i64 ((0 : Nat) : Int))] (scn rfl (scn rfl (scn rfl (scn rfl (Sub.nil _))))) ⟨0, by simp, by simp, rfl, hS⟩ ?_
 clear hS hK;rintro jj m z ⟨i, rfl, hi, rfl, hS⟩;have hK := hS.K;refine aq3 ?_;refine wcd (fun h70 => ?_) (fun h70 => ?_)
 ·obtain ⟨y, hy⟩ : ∃ y, x.funcs[i]? = some y := ⟨_, gee (by omega)⟩;obtain ⟨cy, hcy⟩ : ∃ c, csu[i]? = some c := ⟨_, gee (by omega)⟩;obtain ⟨cw, hcw⟩ : ∃ c, csw[i]? = some c := ⟨_, gee (by omega)⟩;obtain ⟨yp, yr, yv, yb, rfl, hyp, hyr, hyv, hyb⟩ := hFU i y cy hy hcy;obtain ⟨wp', wr', wv', wb', rfl, hwp', hwr', hwv', hwb'⟩ := hG i y cw hy hcw;obtain ⟨hy1, hy2, hy3, hy4, hy5⟩ := id (hsm y (mog hy));obtain ⟨csb, hbr, -, -⟩ := hyb.row StmtLR.to;obtain ⟨csb', hbr', -, -⟩ := id hwb';have hyz : ([.str y.name, .int .u64 y.level, yp, yr, yv, yb] : List AV).all AV.leaf = true := by
   simp only [List.all_cons, List.all_nil, hyp.leaf, hyr.leaf, hyv.leaf, hbr.leaf]; rfl
  have hwz : ([.str y.name, .int .u64 y.level, wp', wr', wv', wb'] : List AV).all AV.leaf = true := by
   simp only [List.all_cons, List.all_nil, hwp'.leaf, hwr'.leaf, hwv'.leaf, hbr'.leaf]; rfl
  refine aq0 ?_;refine wc_early2 (k := 10) (k' := 11) (cs := tz Tt 69) (cs' := tz Tt 69) (fun p7 p8 => [none, none, none, none, none, none, none, none, none, none, some (p7, tz Tt 69), some (p8, tz Tt 69), none, none]) hS (by kernel_rfl) (fun _ => rfl) ?_;clear hS;rintro p7 p8 z hS ⟨hcE, hcE2, hneE⟩ hR;have hS : SH _ [_, _, _, _] z _ := hS;have hK := hS.K;refine we_val (fun _ => rfl) rfl rfl (op_fldP rfl rfl rfl rfl (by decide)) ?_;refine we_load hR (v := cutA uf 0 x.funcs.length) rfl rfl ((hS.pt 0 rfl).at (nl rfl)) rfl (hS.off2 (i := 0) (j := 2) (k := 3) (by decide) (by decide) rfl rfl rfl) rfl rfl ?_;refine we_val (fun _ => rfl) rfl rfl (op_pure rfl) ?_;refine we_val (fun _ => rfl) rfl rfl (op_idx rfl rfl (natA_cast _ _) rfl rfl rfl rfl (Row.bare (hrl.keep0 (hK.trans hR (fun _ h => by cases h)))) (by omega)) ?_;refine we_load hR (v := .agg [.str y.name, .int .u64 y.level, yp, yr, yv, yb]) rfl rfl (Row.pt (hrl.keep0 hK) hcy) rfl (by
    intro g hg hX;have h1 := hrl.lt hok g (elemA_sub hg);have h8 := (hS.bd 2 rfl p7 (msi.2 rfl)).1;have h9 := (hS.bd 3 rfl p8 (msi.2 rfl)).1;simp only [List.mem_cons, nmn, or_false] at hX;omega) rfl rfl ?_
  refine we_val (fun _ => rfl) rfl rfl (op_fldP rfl rfl rfl rfl (by decide)) ?_;refine we_load hR (v := wf) rfl rfl ((hS.pt 1 rfl).at (nl rfl)) rfl (hS.off2 (i := 1) (j := 2) (k := 3) (by decide) (by decide) rfl rfl rfl) rfl rfl ?_;refine we_val (fun _ => rfl) rfl rfl (op_pure rfl) ?_;refine we_val (fun _ => rfl) rfl rfl (op_idx rfl rfl (natA_cast _ _) rfl rfl rfl rfl (Row.bare (hrw.keep0 (hK.trans hR (fun _ h => by cases h)))) (by omega)) ?_;refine we_load hR (v := .agg [.str y.name, .int .u64 y.level, wp', wr', wv', wb']) rfl rfl (Row.pt (hrw.keep0 hK) hcw) rfl (by
    intro g hg hX;have h1 := hrw.lt hok g (elemA_sub hg);have h8 := (hS.bd 2 rfl p7 (msi.2 rfl)).1;have h9 := (hS.bd 3 rfl p8 (msi.2 rfl)).1;simp only [List.mem_cons, nmn, or_false] at hX;omega) rfl rfl ?_
  refine we_alloc rfl (.head _) ?_;refine we_alloc rfl (.tail _ (.head _)) ?_;refine we_store (old := tz Tt 69) (.head _) hR.ok (ah2a hneE (by kernel_rfl)) rfl rfl rfl rfl rfl rfl (by first | rfl | assumption | exact Row.leaf (by assumption)) ((hS.pt 2 rfl).keep0 hR) ?_;rintro sE0 hpE0 hkE0;refine we_store (old := tz Tt 69) (.tail _ (.head _)) hkE0.ok (ah2b hneE (by kernel_rfl)) rfl rfl rfl rfl rfl rfl (by first | rfl | assumption | exact Row.leaf (by assumption)) (Pt.keep ((hS.pt 3 rfl).keep0 hR) hkE0 (by simp [AV.gs, hneE.symm])) ?_;rintro sE1 hpE1 hkE1;refine we_nil ?_;have hS := hS.mov hR;have hS := hS.upd 2 rfl hkE0 (fun g hg => hg) (ptC (.ptr p7 0 0) _) hpE0 (fun g hg => .inl hg);have hS := hS.upd 3 rfl hkE1 (fun g hg => hg) (ptC (.ptr p8 0 0) _) hpE1 (fun g hg => .inl hg);generalize sE1 = z at hS ⊢;have hS : SH _ [_, _, _, _] z _ := hS;have hK := hS.K;refine aq1 ?_;refine wvz (v := yp) (oL 2 hS) ?_;refine aq1 ?_;refine wvz (v := wp') (oL 3 hS) ?_;refine wkz (keptDecls_ok hy1 (hyp.keep0 hK) (hwp'.keep0 hK)) ?_;rintro _ sX ⟨eX, rfl⟩;obtain rfl := eX.symm;refine aq3 ?_;refine wvz (v := yr) (oL 2 hS) ?_;refine aq1 ?_;refine wvz (v := wr') (oL 3 hS) ?_;refine wkz (keptLabels_ok hy2 (hyr.keep0 hK) (hwr'.keep0 hK)) ?_;rintro _ sX ⟨eX, rfl⟩;obtain rfl := eX.symm;refine aq4 ?_;refine wvz (v := yv) (oL 2 hS) ?_;refine aq1 ?_;refine wvz (v := wv') (oL 3 hS) ?_;refine wkz (keptDecls_ok hy3 (hyv.keep0 hK) (hwv'.keep0 hK)) ?_;rintro _ sX ⟨eX, rfl⟩;obtain rfl := eX.symm;refine aq4 ?_;refine wvz (v := yb) (oL 2 hS) ?_;refine aq1 ?_;refine wvz (v := wb') (oL 3 hS) ?_;refine wkz (keptStmts_ok hy4 hy5 (LentR.keep0 stmtLR_keep hyb hK) (RowR.keep0 stmtR_keep hwb' hK)) ?_;rintro _ sX ⟨eX, rfl⟩;obtain rfl := eX.symm;refine aq2 ?_;refine wc_cond_f rfl ?_;refine aq1 ?_;refine wad ?_;refine aq1 ?_;have hS : SH s [ptC (.ptr p0 0 0) [vp, vg, cutA ua 0 x.arrays.length, vc, cutA uf 0 x.funcs.length], ptC (.ptr p1 0 0) [wp, wg, wa, wc, wf]] z := hS.sub (.cons_cons _ (.cons_cons _ (.cons _ (.cons _ (.refl _)))));exact rn ⟨i + 1, rfl, by omega, rfl, hS⟩
 refine aq1 ?_;exact ⟨_, rfl, hK, rfl⟩
section
variable {P : Program} {T : Tab} {K : Kn}
theorem CallS.thaw {f : FuncId} {args args0 : List AV} {z : St} {Q : AV → Prop} (hok : z.Ok) (ha : FzL z.h (fun g => g < z.ctr) args args0)
  (h : ∀ z0 : St, z0.Ok → CallS P T K f args0 z0 fun v z' => Keep [] z0 z' ∧ Q v) (hpl : ∀ v, Q v → v.pl = true) : CallS P T K f args z fun v z' => Keep [] z z' ∧ Q v := by
 obtain ⟨N, v, z', ⟨hk, hq⟩, hn⟩ := h ⟨z.ctr, .leaf, z.wr⟩ (fun _ _ => Tr.get_leaf _);refine ⟨N, v, ⟨z'.ctr, z.h, z'.wr⟩, ⟨⟨hok, fun g hg => hok g (Nat.le_trans hk.ctr hg), hk.ctr, fun _ _ _ h => h, hk.wr⟩, hq⟩, fun n hn' D s args' hst ha' => ?_⟩;have hst0 : StZ (fun g => D g ∨ g < z.ctr) s ⟨z.ctr, .leaf, z.wr⟩ := ⟨hst.ctr, hst.wr, fun g G hG => by
   have hG : Tr.get (.leaf : Tr Grp) g = some G := hG;rw [Tr.get_leaf] at hG;exact absurd hG (by simp), fun g hg => hg.elim (hst.bd g) fun h => by rw [hst.ctr]; exact h⟩
 obtain ⟨D', v', s', e1, p1, hs', hv⟩ := hn n hn' _ s args' hst0 (ha.comp hst (fun _ h => .inl h) (fun _ h => .inr h) ha');have := hv.pl (hpl v hq);subst this;obtain ⟨w, hw1, hw2⟩ := p1.wr;refine ⟨D, v', s', e1, ⟨fun _ h => h, fun g hg => p1.un g (.inl hg), w, hw1, fun g hg hd => hw2 g hg (.inl hd)⟩, ⟨hs'.ctr, hs'.wr, fun g G hG => ?_, fun g hg => ?_⟩, .refl _⟩
 ·have hG : Tr.get z.h g = some G := hG;obtain ⟨h1, G', h2, h3⟩ := hst.get g G hG;have hl : g < z.ctr := Nat.lt_of_not_le fun h => by rw [hok g h] at hG; cases hG
  exact ⟨h1, G', (p1.un g (.inr hl)).trans h2, h3.mono (fun g hg => p1.un g (.inl hg)) fun _ h => h⟩
 ·have h1 := hst.bd g hg;have h2 := hst.ctr;have h3 : z.ctr ≤ z'.ctr := hk.ctr;have h4 := hs'.ctr;omega
theorem FzL.flatN {h : Tr Grp} {E : Nat → Prop} : ∀ {a a' : List (List AV)}, a'.length = a.length → (∀ (i : Nat) (c c' : List AV), a[i]? = some c → a'[i]? = some c' → FzL h E c c') → FzL h E a.flatten a'.flatten
 | [], [], _, _ => .nil
 | x :: a, y :: a', hl, hk => FzL.app (hk 0 x y rfl rfl) (FzL.flatN (by simpa using hl) fun i c c' h1 h2 => hk (i + 1) c c' (by simpa using h1) (by simpa using h2))
 | [], _ :: _, hl, _ => by simp at hl
 | _ :: _, [], hl, _ => by simp at hl
theorem row_toldN {h : Tr Grp} {E : Nat → Prop} {sz : Nat} {v : AV} {css css' : List (List AV)} (hr : Row h sz v css) (hn : v.gs ≠ []) (hg : ∀ g ∈ v.gs, E g) (hl : css'.length = css.length)
  (hc : ∀ c' ∈ css', c'.length = sz ∧ c'.all AV.leaf = true) (hk : ∀ (i : Nat) (c c' : List AV), css[i]? = some c → css'[i]? = some c' → FzL h E c c') : ∃ r, FzL h E [v] [r] ∧ RowP sz r css' := by
 cases v with
 | slc g j off sz' len lo ex =>
  have h6 := hr.rd;obtain ⟨rfl, h2, h3, h4, h5, -⟩ := hr;have hm : (css'.map packC).map AV.cells = css' := by
   rw [List.map_map]
   conv => rhs; rw [← List.map_id css']
   exact List.map_congr_left fun c hc' => packC_cells (hc c hc').2
  refine ⟨.ro false (css'.map packC), .slc (hg g (mcs ..)) h2 (fun x hx => ?_) (cs := css.flatten) (by rw [lmm, hl, ← h3]; exact h6) (by rw [lmm, h3, hl]) h4 (by rw [List.flatMap_def, hm]; exact FzL.flatN hl hk) .nil, hm, hc⟩;obtain ⟨c, hc', rfl⟩ := List.mem_map.1 hx;rw [packC_cells (hc c hc').2];exact hc c hc'
 | nils => exact (hn rfl).elim
 | ro nl xs => exact (hn rfl).elim
 | _ => exact hr.elim
end
end Go.Ab
namespace Go.Ab
open Go.Proofs
theorem pick_all {α : Type} {S : α → List AV → List AV → Prop} : ∀ {xs : List α} {css : List (List AV)}, css.length = xs.length → (∀ (i : Nat) (x : α) (c : List AV), xs[i]? = some x → css[i]? = some c → ∃ c', S x c c') →
  ∃ css' : List (List AV), css'.length = css.length ∧ ∀ (i : Nat) (x : α) (c c' : List AV), xs[i]? = some x → css[i]? = some c → css'[i]? = some c' → S x c c'
 | [], [], _, _ => ⟨[], rfl, fun i x c c' h => by simp at h⟩
 | x :: xs, c :: css, hl, h => by
  obtain ⟨c0, h0⟩ := h 0 x c rfl rfl;obtain ⟨r, h1, h2⟩ := pick_all (xs := xs) (css := css) (by simpa using hl) fun i y d k1 k2 => h (i + 1) y d (by simpa using k1) (by simpa using k2);refine ⟨c0 :: r, by simp [h1], fun i y d d' k1 k2 k3 => ?_⟩;cases i with
  | zero =>
   simp only [List.getElem?_cons_zero, sjj] at k1 k2 k3;subst k1; subst k2; subst k3;exact h0
  | succ i => exact h2 i y d d' (by simpa using k1) (by simpa using k2) (by simpa using k3)
 | [], _ :: _, hl, _ => by simp at hl
 | _ :: _, [], hl, _ => by simp at hl
section
variable {h : Tr Grp} {F E : Nat → Prop} {sz : Nat} {mk c : List AV} {v : AV}
theorem LentF.told {α : Type} {f : α → List AV} {xs : List α} (k : LentF h F sz f mk v xs) (hF : ∀ g, F g → E g) : ∃ r, FzL h E [v] [r] ∧ RowP sz r (xs.map f) := row_told k.1.row fun g hg => hF g (k.2 g hg)
theorem LentRF.told {α : Type} {R : RP α} {R' : Tr Grp → α → List AV → Prop} {xs : List α} (k : LentRF h F sz R mk v xs) (hF : ∀ g, F g → E g)
  (hR : ∀ x c, R h F x c → ∃ c', FzL h E c c' ∧ R' .leaf x c' ∧ c'.length = sz ∧ c'.all AV.leaf = true) : ∃ r, FzL h E [v] [r] ∧ RowR .leaf sz R' r xs := by
 obtain ⟨u, css, rfl, hu, hF1, hr, hl, hx⟩ := k;obtain ⟨css', h1, h2⟩ := pick_all (S := fun x c c' => FzL h E c c' ∧ R' .leaf x c' ∧ c'.length = sz ∧ c'.all AV.leaf = true) hl fun i x c k1 k2 => hR x c (hx i x c k1 k2);have h3 : ∀ i c', css'[i]? = some c' → ∃ x c, xs[i]? = some x ∧ css[i]? = some c := fun i c' hc => by
  have := (ges.1 hc).1;exact ⟨xs[i]'(by omega), css[i]'(by omega), gee (by omega), gee (by omega)⟩
 obtain ⟨r, e1, e2⟩ := row_toldN (hr.less hl) (by rw [cutA_gs]; exact hu) (by rw [cutA_gs]; exact fun g hg => hF g (hF1 g hg)) h1 (fun c' hc => by
   obtain ⟨i, hi⟩ := List.getElem?_of_mem hc;obtain ⟨x, c, k1, k2⟩ := h3 i c' hi;exact (h2 i x c c' k1 k2 hi).2.2) (fun i c c' k1 k2 => by
   obtain ⟨x, d, k3, k4⟩ := h3 i c' k2;rw [k1] at k4;cases k4;exact (h2 i x c c' k3 k1 k2).1)
 refine ⟨r, e1, css', e2, by omega, fun i x c' k1 k2 => ?_⟩;obtain ⟨y, d, k3, k4⟩ := h3 i c' k2;rw [k1] at k3;cases k3;exact (h2 i x d c' k1 k4 k2).2.1
theorem terms_told {ts : List TermL} (k : TermsLF h F ts c) (hF : ∀ g, F g → E g) : ∃ c', FzL h E c c' ∧ TermsR .leaf ts c' ∧ c'.length = 1 ∧ c'.all AV.leaf = true := by
 obtain ⟨v, rfl, hv⟩ := k;obtain ⟨r, h1, h2⟩ := hv.told hF;exact ⟨[r], h1, ⟨r, rfl, h2⟩, rfl, by simp [h2.leaf]⟩
theorem stmt_told {x : StmtL} (k : StmtLF h F x c) (hF : ∀ g, F g → E g) : ∃ c', FzL h E c c' ∧ StmtR .leaf x c' ∧ c'.length = 4 ∧ c'.all AV.leaf = true := by
 obtain ⟨vt, ve, rfl, h1, h2⟩ := k;obtain ⟨r1, e1, k1⟩ := h1.told hF;obtain ⟨r2, e2, k2⟩ := h2.told (R' := TermsR) hF fun ts c hc => terms_told hc hF;refine ⟨[.int .i64 x.kind, .str x.name, r1, r2], .same _ (.same _ (FzL.cons e1 e2)), ⟨r1, r2, rfl, k1, k2⟩, rfl, ?_⟩;obtain ⟨css, k3, -⟩ := k2;simp only [List.all_cons, List.all_nil, k1.leaf, k3.leaf]; rfl
theorem fun_told {x : FunL} (k : FunLF h F x c) (hF : ∀ g, F g → E g) : ∃ c', FzL h E c c' ∧ FunR .leaf x c' ∧ c'.length = 6 ∧ c'.all AV.leaf = true := by
 obtain ⟨vp, vr, vv, vb, rfl, h1, h2, h3, h4⟩ := k;obtain ⟨r1, e1, k1⟩ := h1.told hF;obtain ⟨r2, e2, k2⟩ := h2.told hF;obtain ⟨r3, e3, k3⟩ := h3.told hF;obtain ⟨r4, e4, k4⟩ := h4.told (R' := StmtR) hF fun x c hc => stmt_told hc hF;refine ⟨[.str x.name, .int .u64 x.level, r1, r2, r3, r4], .same _ (.same _ (FzL.cons e1 (FzL.cons e2 (FzL.cons e3 e4)))), ⟨r1, r2, r3, r4, rfl, k1, k2, k3, k4⟩, rfl, ?_⟩;obtain ⟨css, k5, -⟩ := k4;simp only [List.all_cons, List.all_nil, k1.leaf, k2.leaf, k3.leaf, k5.leaf]; rfl
theorem src_told {x : SrcL} (k : SrcLF h F x c) (hF : ∀ g, F g → E g) : ∃ c', FzL h E [.agg c] [.agg c'] ∧ SrcP x c' := by
 obtain ⟨vp, vg, va, vc, vf, rfl, h1, h2, h3, h4, h5⟩ := k;obtain ⟨r1, e1, k1⟩ := h1.told hF;obtain ⟨r2, e2, k2⟩ := h2.told hF;obtain ⟨r3, e3, k3⟩ := h3.told hF;obtain ⟨r4, e4, k4⟩ := h4.told hF;obtain ⟨r5, e5, k5⟩ := h5.told (R' := FunR) hF fun x c hc => fun_told hc hF;exact ⟨[r1, r2, r3, r4, r5], .agg (FzL.cons e1 (FzL.cons e2 (FzL.cons e3 (FzL.cons e4 e5)))) .nil, ⟨r1, r2, r3, r4, r5, rfl, k1, k2, k3, k4, k5⟩⟩
end
end Go.Ab
namespace Go.Ab
open Go.Proofs
theorem termsP_up {x : List TermL} {c : List AV} (k : TermsR .leaf x c) (h : Tr Grp) : TermsR h x c := by
 obtain ⟨v, rfl, hv⟩ := k;exact ⟨v, rfl, RowP.up hv h⟩
theorem RowR.up {α : Type} {R : Tr Grp → α → List AV → Prop} {sz : Nat} {v : AV} {xs : List α} (k : RowR .leaf sz R v xs) (h : Tr Grp) (hR : ∀ x c, R .leaf x c → R h x c) : RowR h sz R v xs := by
 obtain ⟨css, h1, h2, h3⟩ := k;exact ⟨css, RowP.up h1 h, h2, fun i x c k1 k2 => hR _ _ (h3 i x c k1 k2)⟩
theorem stmtP_up {x : StmtL} {c : List AV} (k : StmtR .leaf x c) (h : Tr Grp) : StmtR h x c := by
 obtain ⟨vt, ve, rfl, h1, h2⟩ := k;exact ⟨vt, ve, rfl, RowP.up h1 h, h2.up h fun x c k => termsP_up k h⟩
theorem funP_up {x : FunL} {c : List AV} (k : FunR .leaf x c) (h : Tr Grp) : FunR h x c := by
 obtain ⟨vp, vr, vv, vb, rfl, h1, h2, h3, h4⟩ := k;exact ⟨vp, vr, vv, vb, rfl, RowP.up h1 h, RowP.up h2 h, RowP.up h3 h, h4.up h fun x c k => stmtP_up k h⟩
theorem srcP_up {x : SrcL} {c : List AV} (k : SrcP x c) (h : Tr Grp) : SrcR h x c := by
 obtain ⟨vp, vg, va, vc, vf, rfl, h1, h2, h3, h4, h5⟩ := k;exact ⟨vp, vg, va, vc, vf, rfl, RowP.up h1 h, RowP.up h2 h, RowP.up h3 h, RowP.up h4 h, h5.up h fun x c k => funP_up k h⟩
theorem lf_bare {z : St} {F : Nat → Prop} {x : SrcL} {c : List AV} (h : SrcLF z.h F x c) : SrcLF z.bare.h F x c := h
theorem flow_check_lent {s : St} {c : List AV} {x : SrcL} {F : Nat → Prop} (hok : s.Ok) (hx : x.small) (hfi : x.fine) (hl : SrcLF s.h F x c) (hF : ∀ g, F g → g < s.ctr) :
  CallS Try.prog Tt Kt 7 [.agg c] s fun r s' => Keep [] s s' ∧ r = .agg (fltC (firstF (chkL x))) := by
 obtain ⟨c0, h1, h2⟩ := src_told hl hF;exact CallS.thaw hok h1 (fun z0 h0 => flow_check_ok h0 hx hfi h2) (by rintro _ rfl; rfl)
theorem flowtypeChecks_run {s : St} {c : List AV} {x : SrcL} (hok : s.Ok) (hx : x.small) (hfi : x.fine) (hv : SrcP x c) :
  CallS Try.prog Tt Kt 3 [.agg c] s fun r _ => r = .bool true := by
 have hz := hv.leaf;obtain ⟨vp, vg, va, vc, vf, rfl, hvp, hvg, hva, hvc, csf, hrf, hlf, hF⟩ := id hv;obtain ⟨hl1, hl2, hl3, hl4, hl5, hsm⟩ := id hx;have hsf : vf.slen = some x.funcs.length := by rw [hrf.slen, hlf]
 refine cof 16 Try.func3 ?_;refine aq0 ?_;have hS := SH.start hok;refine aq0 ?_;refine ws_box hS rfl rfl rfl hz ?_;rintro p0 z hS hk;have hS : SH _ [_] z _ := hS;refine aq1 ?_;refine wvz (v := .agg [vp, vg, va, vc, vf]) (oL 0 hS) ?_;refine wkz (lentSource_ok hS.ok hx (srcP_up hv _)) ?_;rintro _ z ⟨hk, c', rfl, hl⟩;have hS := hS.add hk (thC good_src _ x c') hl (fun g h => ⟨h.1, h.2.1⟩);have hrl := SrcLR.to x _ (SrcLF.to x _ hl);obtain ⟨up, ug, ua, uc, uf, rfl, k1, k2, k3, k4, csu, k5, -⟩ := id hrl;have hzu : ([up, ug, ua, uc, uf] : List AV).all AV.leaf = true := by
  simp only [List.all_cons, List.all_nil, k1.leaf, k2.leaf, k3.leaf, k4.leaf, k5.leaf]; rfl
 have hS : SH _ [_, _] z := hS;clear hl hk hrl k1 k2 k3 k4 k5;refine ws_alloc hS rfl rfl rfl rfl ?_;rintro p3 z hS hk;have hS : SH _ [_, _, _] z _ := hS;have hK := hS.K
 first | refine ws_storeL 2 hS rfl rfl rfl rfl rfl rfl (by first | rfl | assumption | exact Row.leaf (by assumption)) (nl rfl) ?_ | refine ws_store 2 hS rfl rfl rfl rfl rfl rfl (by first | rfl | assumption | exact Row.leaf (by assumption)) (nl rfl) ?_
 rintro z hS;have hS : SH _ [_, _, _] z _ := hS;have hK := hS.K;refine aq0 ?_;have hR := Keep.refl (s := z) (by first | exact hK.ok | exact hS.ok | assumption);refine wc_draw (Old z []) (by kernel_rfl) rfl ?_;refine wol hR (v := .agg [up, ug, ua, uc, uf]) ((hS.pt 2 rfl).at (o := 0) (Nat.zero_le _)) (fun _ _ h => by cases h) ?_;refine wo_call0 hR rfl rfl (fun _ => rfl) (op_call rfl rfl rfl rfl) (flow_check_lent hR.ok hx hfi (lf_bare (good_src.keep (Y := []) (hS.get 1 rfl) hR (fun _ h => by cases h))) (fun g hg => Nat.lt_of_lt_of_le (hS.bdX 1 rfl g hg).2 hR.ctr)) (fun _ _ h => h.1) (by rintro _ _ ⟨-, rfl⟩; rfl) ?_;rintro _ sA ⟨-, rfl⟩ hR;refine wol hR (v := .agg [vp, vg, va, vc, vf]) ((hS.pt 0 rfl).at (o := 0) (Nat.zero_le _)) (fun _ _ h => by cases h) ?_;refine woc hR (flow_check_ref_ok hR.ok hx hfi hv) ?_;rintro _ sB ⟨-, rfl⟩ hR;refine wov (op_bin rfl rfl rfl) ?_;refine aq1 ?_;refine wo_split (i := 11) rfl (fun h11 => ?_) (fun h11 => ?_)
 ·refine aq0 ?_;refine wol hR (v := .agg [up, ug, ua, uc, uf]) ((hS.pt 2 rfl).at (o := 0) (Nat.zero_le _)) (fun _ _ h => by cases h) ?_;refine wol hR (v := .agg [vp, vg, va, vc, vf]) ((hS.pt 0 rfl).at (o := 0) (Nat.zero_le _)) (fun _ _ h => by cases h) ?_;refine wo_call0 hR rfl rfl (fun _ => rfl) (op_call rfl rfl rfl rfl) (keptSource_ok hR.ok hx (SrcLF.to x _ (lf_bare (good_src.keep (Y := []) (hS.get 1 rfl) hR (fun _ h => by cases h)))) (srcP_up hv _)) (fun _ _ h => h.1) (by rintro _ _ ⟨-, rfl⟩; rfl) ?_;rintro _ sC ⟨-, rfl⟩ hR;refine aq2 ?_;have hS := hS.mov hR;refine aq0 ?_;exact ⟨_, rfl, rfl⟩
 simp [] at h11
def tiles (P : Program) : Nat → List Field → Nat → Bool
 | k, [], n => k == n
 | k, f :: r, n => f.offset == k && tiles P (k + P.cellsOf f.type) r n
def Plain (P : Program) : Nat → TypeId → Bool
 | 0, _ => false
 | n + 1, t => match P.underlying t with
  | some .bool | some (.int _) | some .string => true
  | some (.slice e) => P.cellsOf e > 0 && Plain P n e
  | some (.struct fs) => tiles P 0 fs.toList (P.cellsOf t) && fs.toList.all fun f => Plain P n f.type
  | _ => false
def packE {H : Type} (d : DataW H) (cs : List AV) : AV := match d with
 | .agg _ => .agg cs
 | _ => cs.headD .undef
mutual
def avs {H : Type} : DataW H → List AV
 | .lit (.int k n) => [.int k n]
 | .lit (.bool b) => [.bool b]
 | .lit (.string bs) => [.str ⟨bs.toArray⟩]
 | .nil => [.ro true []]
 | .slice es _ => [.ro false (elts es)]
 | .agg ds => avsAll ds
 | _ => [.undef]
def avsAll {H : Type} : List (DataW H) → List AV
 | [] => []
 | d :: r => avs d ++ avsAll r
def elts {H : Type} : List (DataW H) → List AV
 | [] => []
 | d :: r => packE d (avs d) :: elts r
end
theorem elts_map {H : Type} : ∀ (l : List (DataW H)), elts l = l.map fun d => packE d (avs d)
 | [] => by rw [elts]; rfl
 | d :: r => by rw [elts, elts_map r]; rfl
def HasTy {H : Type} (P : Program) : Nat → TypeId → DataW H → Prop
 | 0, _, _ => False
 | n + 1, t, d => match P.underlying t with
  | some .bool => ∃ b, d = .lit (.bool b)
  | some (.int k) => ∃ m, d = .lit (.int k m) ∧ (Lit.int k m).wf = true
  | some .string => ∃ bs, d = .lit (.string bs)
  | some (.slice e) => d = .nil ∨ ∃ es sp, d = .slice es sp ∧ ∀ x ∈ es, HasTy P n e x
  | some (.struct fs) => ∃ ds, d = .agg ds ∧ ds.length = fs.toList.length ∧ ∀ (i : Nat) (f : Field) (x : DataW H), fs.toList[i]? = some f → ds[i]? = some x → HasTy P n f.type x
  | _ => False
theorem HasTy.pack {H : Type} {P : Program} {n : Nat} {t : TypeId} {d : DataW H} (h : HasTy P n t d) : (packE d (avs d)).cells = avs d := by
 cases n with
 | zero => exact h.elim
 | succ n =>
  unfold HasTy at h;split at h
  ·obtain ⟨b, rfl⟩ := h; simp [avs, packE, AV.cells]
  ·obtain ⟨b, rfl, -⟩ := h; simp [avs, packE, AV.cells]
  ·obtain ⟨b, rfl⟩ := h; simp [avs, packE, AV.cells]
  ·rcases h with rfl | ⟨es, sp, rfl, -⟩ <;> simp [avs, packE, AV.cells]
  ·obtain ⟨ds, rfl, -⟩ := h; simp [avs, packE, AV.cells]
  ·exact h.elim
theorem mapM_some' {α β : Type} {f : α → Option β} : ∀ {l : List α} {r : List β}, l.mapM f = some r → l.length = r.length ∧ ∀ (i : Nat) (x : α) (y : β), l[i]? = some x → r[i]? = some y → f x = some y
 | [], r, h => by simp at h; subst h; exact ⟨rfl, fun i x y h => by simp at h⟩
 | a :: l, r, h => by
  rw [List.mapM_cons] at h;cases ha : f a with
  | none => simp [ha] at h
  | some b =>
   cases hl : l.mapM f with
   | none => simp [ha, hl] at h
   | some r' =>
    simp [ha, hl] at h;subst h;obtain ⟨h1, h2⟩ := mapM_some' hl;refine ⟨by simp [h1], fun i x y hx hy => ?_⟩;cases i with
    | zero => simp at hx hy; subst hx; subst hy; exact ha
    | succ i => exact h2 i x y (by simpa using hx) (by simpa using hy)
section
variable {H : Type} {enc : TypeId × Value → H} {P : Program} {w : World} {spare : Nat → Bool} {held : Bool} {ρ : Loc}
def RdOk (w : World) (P : Program) (ρ : Loc) (n : Nat) (t : TypeId) (cs : List Value) (d : DataW H) : Prop :=
 HasTy P n t d ∧ (avs d).length = cs.length ∧ CR w w.heap.size ρ (avs d) cs ∧ (avs d).all AV.leaf = true
theorem fields_read {n : Nat} (ih : ∀ t cs x, DataW.trod enc P w 0 spare held n t cs = some x → ∀ m, Plain P m t = true → RdOk w P ρ n t cs x.1) {m : Nat} {cs : List Value} :
  ∀ (fs : List Field) (k N : Nat) (xs : List (DataW H × List MemPlace)), N = cs.length → xs.length = fs.length → (∀ (i : Nat) (f : Field), fs[i]? = some f → DataW.trod enc P w 0 spare held n f.type ((cs.drop f.offset).take (P.cellsOf f.type)) = xs[i]?) → tiles P k fs N = true → (∀ f ∈ fs, Plain P m f.type = true) →
   (avsAll (xs.map (·.1))).length = (cs.drop k).length ∧ CR w w.heap.size ρ (avsAll (xs.map (·.1))) (cs.drop k) ∧ (avsAll (xs.map (·.1))).all AV.leaf = true ∧ ∀ (i : Nat) (f : Field) (x : DataW H × List MemPlace), fs[i]? = some f → xs[i]? = some x → HasTy P n f.type x.1
 | [], k, N, xs, hN, hl, h, ht, hp => by
  have : xs = [] := List.eq_nil_of_length_eq_zero hl;subst this;simp only [tiles, beq_iff_eq] at ht;subst ht hN;simp [avsAll, CR.nil]
 | f :: r, k, N, xs, hN, hl, h, ht, hp => by
  cases xs with
  | nil => simp at hl
  | cons b ys =>
   simp only [tiles, Bool.and_eq_true, beq_iff_eq] at ht;obtain ⟨hoff, ht⟩ := ht;have h0 := h 0 f rfl;simp only [List.getElem?_cons_zero] at h0;obtain ⟨h5, h1, h2, h6⟩ := ih _ _ b h0 m (hp f (mcs ..));obtain ⟨h3, h4, h7, h8⟩ := fields_read ih r (k + P.cellsOf f.type) N ys hN (by simpa using hl) (fun i g hg => by have := h (i + 1) g (by simpa using hg); simpa using this) ht (fun g hg => hp g (List.mem_cons_of_mem _ hg));rw [hoff] at h1 h2;have e : cs.drop k = (cs.drop k).take (P.cellsOf f.type) ++ cs.drop (k + P.cellsOf f.type) := by
    rw [← List.drop_drop, List.take_append_drop]
   rw [List.map_cons, avsAll, e];refine ⟨by rw [laa, laa, h1, h3], h2.append h4, by rw [List.all_append, h6, h7]; rfl, fun i g x hg hx => ?_⟩;cases i with
   | zero => simp at hg hx; subst hg; subst hx; exact h5
   | succ i => exact h8 i g x (by simpa using hg) (by simpa using hx)
theorem cells_at {w : World} {base : Nat} {a : Addr} {n : Nat} {cs : List Value} (h : w.cells? base a n = some cs) : cs.length = n ∧ ∀ (k : Nat) (v : Value), cs[k]? = some v → w.cell? (a.add k) = some v := by
 unfold World.cells? at h;split at h
 ·obtain ⟨h1, h2⟩ := mapM_some' h;refine ⟨by rw [← h1, List.length_range], fun k v hv => ?_⟩;have hk : k < n := by
   have := (ges.1 hv).1;rw [← h1, List.length_range] at this; exact this
  exact h2 k k v (by rw [List.getElem?_range hk]) hv
 ·cases h
theorem spot_none {w : World} {a : Addr} {v : Value} (h : w.cell? a = some v) : a.spot = none ∧ a.block < w.heap.size := by
 unfold World.cell? at h;split at h
 ·rename_i hb;split at h
  ·cases h
  ·rename_i hs;refine ⟨by simpa using hs, ?_⟩;rcases Nat.lt_or_ge a.block w.heap.size with hl | hl
   ·exact hl
   ·rw [Array.getElem?_eq_none hl] at hb; cases hb
 ·cases h
theorem CR.sole {u : AV} {v : Value} (h : VR w w.heap.size ρ u v) : CR w w.heap.size ρ [u] [v] := CR.cons h CR.nil
theorem read_ok : ∀ (n : Nat) (t : TypeId) (cs : List Value) (x : DataW H × List MemPlace), DataW.trod enc P w 0 spare held n t cs = some x → ∀ m, Plain P m t = true → RdOk w P ρ n t cs x.1
 | 0, _, _, _, h, _, _ => by simp [DataW.trod] at h
 | n + 1, t, cs, x, h, 0, hp => by simp [Plain] at hp
 | n + 1, t, cs, x, h, m + 1, hp => by
  have ih := fun t cs x h m hp => read_ok n t cs x h m hp;unfold Plain at hp;unfold RdOk HasTy;cases hu : P.underlying t with
  | none => simp [hu] at hp
  | some td =>
   rw [hu] at hp;cases td with
   | bool =>
    obtain ⟨b, rfl, rfl⟩ := DataW.trod_bool hu h;exact ⟨⟨b, rfl⟩, by simp [avs], by simp only [avs]; exact CR.sole (.bool b), by simp [avs, AV.leaf]⟩
   | int k =>
    obtain ⟨b, rfl, rfl, hw⟩ := DataW.trod_int hu h;exact ⟨⟨b, rfl, hw⟩, by simp [avs], by simp only [avs]; exact CR.sole (.int k b), by simp [avs, AV.leaf]⟩
   | string =>
    obtain ⟨b, rfl, rfl, hw⟩ := DataW.trod_string hu h;exact ⟨⟨_, rfl⟩, by simp [avs], by simp only [avs]; exact CR.sole (.str b), by simp [avs, AV.leaf]⟩
   | slice e =>
    simp only [Bool.and_eq_true, dtt] at hp;rcases DataW.trod_slice hu h with ⟨rfl, rfl⟩ | ⟨a, len, cap, elems, rest, n', hn, rfl, rfl, hb, hlc, hcm, hel, helem, -, -⟩
    ·refine ⟨.inl rfl, by simp [avs], ?_, by simp [avs, AV.leaf]⟩;simp only [avs];exact CR.sole (.ro true [] none 0 (fun _ _ => undef) (nlr _) (by simp) (fun _ => rfl) (fun a h => by cases h) (fun i x h => by simp at h) (fun i x h => by simp at h))
    ·obtain rfl : n = n' := by omega
     have hall : ∀ (i : Nat) (y : DataW H × List MemPlace), elems[i]? = some y → ∃ vs, w.cells? 0 (a.add (i * P.cellsOf e)) (P.cellsOf e) = some vs ∧ RdOk w P ρ n e vs y.1 := by
      intro i y hy;have hi : i < len := by have := (ges.1 hy).1; omega
      have := helem i hi;rw [hy] at this;cases hc : w.cells? 0 (a.add (i * P.cellsOf e)) (P.cellsOf e) with
      | none => rw [hc] at this; cases this
      | some vs => rw [hc] at this; exact ⟨vs, rfl, ih e vs y this m hp.2⟩
     refine ⟨.inr ⟨_, _, rfl, fun d hd => ?_⟩, by simp [avs], ?_, by simp [avs, AV.leaf]⟩
     ·obtain ⟨y, hy, rfl⟩ := List.mem_map.1 hd;obtain ⟨i, hi⟩ := List.getElem?_of_mem hy;obtain ⟨vs, -, h1, -⟩ := hall i y hi;exact h1
     ·simp only [avs];refine CR.sole ?_;have hlen : (elts (elems.map (·.1))).length = len := by rw [elts_map]; simp [hel]
      have hget : ∀ (i : Nat) (u : AV), (elts (elems.map (·.1)))[i]? = some u → ∃ y vs, elems[i]? = some y ∧ w.cells? 0 (a.add (i * P.cellsOf e)) (P.cellsOf e) = some vs ∧ u.cells = avs y.1 ∧ RdOk w P ρ n e vs y.1 := by
       intro i u hu';rw [elts_map, List.map_map, gmm] at hu';cases hy : elems[i]? with
       | none => rw [hy] at hu'; cases hu'
       | some y =>
        rw [hy] at hu';obtain ⟨vs, h1, h2⟩ := hall i y hy;cases hu';exact ⟨y, vs, rfl, h1, h2.1.pack, h2⟩
      have hadd : ∀ (b : Addr) (k : Nat), b.spot = none → b.add k = ⟨b.block, b.off + k, none⟩ := by
       intro b k hb;obtain ⟨b1, b2, b3⟩ := b;simp only at hb;subst hb;unfold Addr.add;split
       ·rename_i h0; rw [h0]; rfl
       ·rfl
      have hsp : elems ≠ [] → a.spot = none ∧ a.block < w.heap.size := by
       intro hne;obtain ⟨y, hy⟩ : ∃ y, elems[0]? = some y := by
        cases elems with
        | nil => exact (hne rfl).elim
        | cons y r => exact ⟨y, rfl⟩
       obtain ⟨vs, h2, -⟩ := hall 0 y hy;obtain ⟨h7, h8⟩ := cells_at h2;have hv := gee (show 0 < vs.length by rw [h7]; exact hp.1);have := h8 0 _ hv;rw [Nat.zero_mul] at this;exact spot_none (a := a) this
      have hcell : ∀ (i : Nat) (u : AV), (elts (elems.map (·.1)))[i]? = some u → ∀ (k : Nat) (c : AV), u.cells[k]? = some c → ∃ v, w.cell? ⟨a.block, a.off + i * u.cells.length + k, none⟩ = some v ∧ VR w w.heap.size ρ c v := by
       intro i u hu' k c hc;obtain ⟨y, vs, hy, h2, h3, h4, h5, h6, -⟩ := hget i u hu';obtain ⟨h7, h8⟩ := cells_at h2;rw [h3] at hc;have hk : k < vs.length := by rw [← h5]; exact (ges.1 hc).1
       have hv := gee hk;refine ⟨vs[k], ?_, h6.2 k c _ hc hv⟩;have := h8 k _ hv;have hs := (hsp (fun e => by rw [e] at hy; simp at hy)).1;rw [hadd a _ hs, hadd _ _ rfl] at this;rw [h3, h5, h7];exact this
      have key : VR w w.heap.size ρ (.ro false (elts (elems.map (·.1)))) (.slice (some a) (elts (elems.map (·.1))).length cap) := by
       refine .ro false _ (some a) cap (fun i k => match (elts (elems.map (·.1)))[i]? with
         | some u => (w.cell? ⟨a.block, a.off + i * u.cells.length + k, none⟩).getD undef
         | none => undef) (by omega) (by simp) (fun h => by cases h) ?_ ?_ ?_
       ·intro a' ha hne;cases ha;exact hsp (fun e => hne (by rw [e]; rfl))
       ·intro i u hu' k c hc a' ha;cases ha;obtain ⟨v, hv, -⟩ := hcell i u hu' k c hc;simp only [hu', hv]
        rfl
       ·intro i u hu' k c hc;obtain ⟨v, hv, hr⟩ := hcell i u hu' k c hc;simp only [hu', hv];exact hr
      rw [hlen] at key;exact key
   | struct fs =>
    obtain ⟨xs, n', hn, rfl, hcs, hxl, hx⟩ := DataW.trod_struct hu h;obtain rfl : n = n' := by omega
    simp only [Bool.and_eq_true, aet] at hp;obtain ⟨h1, h2, h3, h4⟩ := fields_read (ρ := ρ) ih fs.toList 0 (P.cellsOf t) xs hcs.symm (by simpa using hxl) (fun i f hf => hx i f (by simpa using hf)) hp.1 hp.2;refine ⟨⟨_, rfl, by simp [hxl], fun i f y hf hy => ?_⟩, ?_, ?_, ?_⟩
    ·rw [gmm] at hy;cases hxi : xs[i]? with
     | none => rw [hxi] at hy; cases hy
     | some z => rw [hxi] at hy; cases hy; exact h4 i f z hf hxi
    ·simp only [avs]; simpa using h1
    ·simp only [avs]; simpa using h2
    ·simp only [avs]; exact h3
   | _ => simp at hp
end
end Go.Ab
namespace Go.Ab
open Go.WideShapes Go.RowKit
def St.zero : St := ⟨0, .leaf, []⟩
theorem zero_ok : St.zero.Ok := fun _ _ => rfl
theorem run_ok {P : Program} {T : Tab} {K : Kn} (hm : P.follows .mixedOrders = true) (hT : TabOk P T) (hng : NoNG P) (hK : KOk P K) {f : FuncId} (hf : f < yb) (hx : K.ext f = none) {args : List AV} {args' : Array Value} {w : World} (hgl : GlOk w w.heap.size K.gl)
  (hc : CallS P T K f args St.zero fun r _ => r = .bool true) (ha : CR w w.heap.size (fun _ _ => none) args args'.toList) : Calls P f args' w fun e w' => e = .returned (.bool true) ∧ Below w.heap.size w w' := by
 obtain ⟨N, v, s', rfl, hn⟩ := hc;have hst : StZ (fun _ => False) St.zero St.zero := .refl;obtain ⟨D', v', s1, hr, -, -, hv⟩ := hn (N + 1) (Nat.le_succ N) _ _ _ hst (.refl _);have := hv.hard rfl;subst this;have hs : Sim w w.heap.size (fun _ _ => none) St.zero w :=
  { low := Below.refl _ _, big := nlr _,
    ver := by intros; simp_all, al := by intros; simp_all, sep := by intros; simp_all, ctr := by intros; simp_all }
 refine (callsIn_wide.1 ((call_left (w0 := w) (B0 := w.heap.size) hgl hm hT hng hK (call_sound hgl hm hT hng hK N) hf hx hr).2 _ w args' hs ha)).mono fun e w' hp => ?_;obtain ⟨ρ', _, h2, hp⟩ := hp;cases e with
 | returned v' => cases (show VR w w.heap.size ρ' (.bool true) v' from hp); exact ⟨rfl, h2.low⟩
 | _ => exact hp.elim
section
variable {H : Type} {P : Program} {w : World} {ρ : Loc}
theorem packE_vr {r : Reach} {base n : Nat} {t : TypeId} {v : Value} {d : DataW H} (h : RdOk w P ρ n t v.cells.toList d) (hv : Value.okWide P w r base t v) : VR w w.heap.size ρ (packE d (avs d)) v := by
 obtain ⟨h1, h2, h3, h4⟩ := h;cases n with
 | zero => exact h1.elim
 | succ n =>
  unfold HasTy at h1;split at h1
  ·rename_i hu;obtain ⟨b, rfl⟩ := h1;obtain ⟨b', rfl⟩ := okWide_bool hu hv;simp only [avs, packE] at h3 ⊢;exact h3.2 0 _ _ rfl rfl
  ·rename_i hu;obtain ⟨b, rfl, -⟩ := h1;obtain ⟨b', rfl⟩ := okWide_int hu hv;simp only [avs, packE] at h3 ⊢;exact h3.2 0 _ _ rfl rfl
  ·rename_i hu;obtain ⟨b, rfl⟩ := h1;obtain ⟨b', rfl⟩ := okWide_string hu hv;simp only [avs, packE] at h3 ⊢;exact h3.2 0 _ _ rfl rfl
  ·rename_i hu;obtain ⟨a, len, cap, rfl⟩ := okWide_slice hu hv;rcases h1 with rfl | ⟨es, sp, rfl, -⟩
   ·simp only [avs, packE] at h3 ⊢;exact h3.2 0 _ _ rfl rfl
   ·simp only [avs, packE] at h3 ⊢;exact h3.2 0 _ _ rfl rfl
  ·rename_i hu;obtain ⟨arr, rfl, -⟩ := okWide_struct hu hv;obtain ⟨ds, rfl, -⟩ := h1;simp only [packE];have e : Value.cells (.agg arr) = arr := rfl;rw [e] at h2 h3;exact .agg _ arr (by simpa using h2) fun i u v hu hv => h3.2 i u v hu (by simpa using hv)
  ·exact h1.elim
def dElems : DataW H → List (DataW H)
 | .slice es _ => es
 | _ => []
def dInt : DataW H → Int
 | .lit (.int _ n) => n
 | _ => 0
def dStr : DataW H → ByteArray
 | .lit (.string bs) => ⟨bs.toArray⟩
 | _ => ByteArray.empty
theorem ty_int {n : Nat} {t : TypeId} {k : IntKind} {d : DataW H} (h : HasTy P n t d) (hu : P.underlying t = some (.int k)) : avs d = [.int k (dInt d)] ∧ (Lit.int k (dInt d)).wf = true := by
 cases n with
 | zero => exact h.elim
 | succ n =>
  unfold HasTy at h;rw [hu] at h;obtain ⟨m, rfl, hw⟩ := h;exact ⟨by simp [avs, dInt], hw⟩
theorem ty_str {n : Nat} {t : TypeId} {d : DataW H} (h : HasTy P n t d) (hu : P.underlying t = some .string) : avs d = [.str (dStr d)] := by
 cases n with
 | zero => exact h.elim
 | succ n =>
  unfold HasTy at h;rw [hu] at h;obtain ⟨m, rfl⟩ := h;simp [avs, dStr]
theorem ty_slice {n : Nat} {t e : TypeId} {d : DataW H} (h : HasTy P n t d) (hu : P.underlying t = some (.slice e)) : ∃ m nl, avs d = [.ro nl (elts (dElems d))] ∧ packE d (avs d) = .ro nl (elts (dElems d)) ∧ ∀ x ∈ dElems d, HasTy P m e x := by
 cases n with
 | zero => exact h.elim
 | succ n =>
  unfold HasTy at h;rw [hu] at h;rcases h with rfl | ⟨es, sp, rfl, hx⟩
  ·exact ⟨n, true, by simp [avs, dElems, elts], by simp [avs, dElems, elts, packE], fun x hx => by cases hx⟩
  ·exact ⟨n, false, by simp [avs, dElems], by simp [avs, dElems, packE], hx⟩
theorem ty_struct {n : Nat} {t : TypeId} {fs : Array Field} {d : DataW H} (h : HasTy P n t d) (hu : P.underlying t = some (.struct fs)) : ∃ m ds, d = .agg ds ∧ ds.length = fs.toList.length ∧ ∀ (i : Nat) (f : Field) (x : DataW H), fs.toList[i]? = some f → ds[i]? = some x → HasTy P m f.type x := by
 cases n with
 | zero => exact h.elim
 | succ n =>
  unfold HasTy at h;rw [hu] at h;obtain ⟨ds, h1, h2, h3⟩ := h;exact ⟨n, ds, h1, h2, h3⟩
theorem row_elts {h : Tr Grp} {sz m : Nat} {e : TypeId} {nl : Bool} {es : List (DataW H)} (ht : ∀ x ∈ es, HasTy P m e x) (hc : ∀ x ∈ es, (avs x).length = sz ∧ (avs x).all AV.leaf = true) : Row h sz (.ro nl (elts es)) (es.map avs) := by
 refine ⟨?_, ?_⟩
 ·rw [elts_map, List.map_map];exact List.map_congr_left fun x hx => (ht x hx).pack
 ·intro c hc';obtain ⟨x, hx, rfl⟩ := List.mem_map.1 hc';exact hc x hx
theorem rowF_elts {h : Tr Grp} {sz m : Nat} {e : TypeId} {nl : Bool} {es : List (DataW H)} {α : Type} {f : DataW H → α} {c : α → List AV} (ht : ∀ x ∈ es, HasTy P m e x) (hx : ∀ x ∈ es, avs x = c (f x)) (hc : ∀ a, (c a).length = sz ∧ (c a).all AV.leaf = true) : Row h sz (.ro nl (elts es)) ((es.map f).map c) := by
 have := row_elts (h := h) (sz := sz) (nl := nl) ht fun x hx' => by rw [hx x hx']; exact hc _
 rw [List.map_map];rw [show es.map (c ∘ f) = es.map avs from List.map_congr_left fun x hx' => (hx x hx').symm];exact this
theorem rowR_elts {h : Tr Grp} {sz m : Nat} {e : TypeId} {nl : Bool} {es : List (DataW H)} {α : Type} {f : DataW H → α} {R : Tr Grp → α → List AV → Prop} (ht : ∀ x ∈ es, HasTy P m e x) (hx : ∀ x ∈ es, R h (f x) (avs x)) (hc : ∀ x ∈ es, (avs x).length = sz ∧ (avs x).all AV.leaf = true) : RowR h sz R (.ro nl (elts es)) (es.map f) := by
 refine ⟨_, row_elts ht hc, by simp, fun i a c h1 h2 => ?_⟩;rw [gmm] at h1 h2;cases hy : es[i]? with
 | none => rw [hy] at h1; cases h1
 | some y =>
  rw [hy] at h1 h2;cases h1;cases h2;exact hx y (mog hy)
end
end Go.Ab
namespace Go.Ab
open Go.Proofs
theorem tt_ok : TabOk Try.prog Tt := tab_ok (by kernel_rfl)
theorem prog_ng : NoNG Try.prog := ng_ok (by kernel_rfl)
theorem prog_mixed : Try.prog.follows .mixedOrders = true := by kernel_rfl
end Go.Ab
namespace Go.Ab
open Go.Proofs
section
variable {H : Type} {h : Tr Grp} {n : Nat} {d : DataW H}
theorem wf_u64 {a : Int} (h : (Lit.int .u64 a).wf = true) : U64 a := by
 simp only [Lit.wf, Bool.and_eq_true, dtt] at h;have e1 : IntKind.u64.min = 0 := by decide
 have e2 : IntKind.u64.max = 18446744073709551615 := by decide
 rw [e1, e2] at h;unfold U64;omega
def toTerm : DataW H → TermL
 | .agg [a, b, c] => ⟨dInt a, dInt b, dStr c⟩
 | _ => ⟨0, 0, ByteArray.empty⟩
def toStmt : DataW H → StmtL
 | .agg [a, b, c, e] => ⟨dInt a, dStr b, (dElems c).map dStr, (dElems e).map fun r => (dElems r).map toTerm⟩
 | _ => ⟨0, ByteArray.empty, [], []⟩
def toDecl : DataW H → DeclL
 | .agg [a, b] => ⟨dStr a, dInt b⟩
 | _ => ⟨ByteArray.empty, 0⟩
def toArrD : DataW H → ArrD
 | .agg [a, b, c] => ⟨dStr a, dInt b, dInt c⟩
 | _ => ⟨ByteArray.empty, 0, 0⟩
def toFun : DataW H → FunL
 | .agg [a, l, p, r, v, b] => ⟨dStr a, dInt l, (dElems p).map toDecl, (dElems r).map dInt, (dElems v).map toDecl, (dElems b).map toStmt⟩
 | _ => ⟨ByteArray.empty, 0, [], [], [], []⟩
def toSrc : DataW H → SrcL
 | .agg [p, g, a, c, f] => ⟨(dElems p).map dStr, (dElems g).map toDecl, (dElems a).map toArrD, (dElems c).map toDecl, (dElems f).map toFun⟩
 | _ => ⟨[], [], [], [], []⟩
theorem term_of (k : HasTy Try.prog n 166 d) : avs d = tC (toTerm d) := by
 obtain ⟨m, ds, rfl, hl, hx⟩ := ty_struct k Try.underlying166
 match ds, hl, hx with
 | [a, b, c], _, hx =>
  have h0 := (ty_int (hx 0 _ a rfl rfl) Try.underlying3).1;have h1 := (ty_int (hx 1 _ b rfl rfl) Try.underlying2).1;have h2 := ty_str (hx 2 _ c rfl rfl) Try.underlying9;simp only [avs, avsAll, h0, h1, h2, toTerm, tC]
  rfl
theorem strs_of (k : HasTy Try.prog n 22 d) : ∃ nl, avs d = [.ro nl (elts (dElems d))] ∧ Row h 1 (.ro nl (elts (dElems d))) (((dElems d).map dStr).map sC) := by
 obtain ⟨m, nl, h1, -, h2⟩ := ty_slice k Try.underlying22;exact ⟨nl, h1, rowF_elts h2 (fun x hx => ty_str (h2 x hx) Try.underlying9) (fun a => ⟨rfl, rfl⟩)⟩
theorem terms_of (k : HasTy Try.prog n 119 d) : ∃ nl, avs d = [.ro nl (elts (dElems d))] ∧ Row h 3 (.ro nl (elts (dElems d))) (((dElems d).map toTerm).map tC) := by
 obtain ⟨m, nl, h1, -, h2⟩ := ty_slice k Try.underlying119;exact ⟨nl, h1, rowF_elts h2 (fun x hx => term_of (h2 x hx)) (fun a => ⟨rfl, rfl⟩)⟩
theorem exprs_of (k : HasTy Try.prog n 73 d) : ∃ nl, avs d = [.ro nl (elts (dElems d))] ∧ RowR h 1 TermsR (.ro nl (elts (dElems d))) ((dElems d).map fun r => (dElems r).map toTerm) := by
 obtain ⟨m, nl, h1, -, h2⟩ := ty_slice k Try.underlying73;refine ⟨nl, h1, rowR_elts h2 (fun x hx => ?_) (fun x hx => ?_)⟩
 ·obtain ⟨nl', h3, h4⟩ := terms_of (h := h) (h2 x hx);exact ⟨_, h3, h4⟩
 ·obtain ⟨nl', h3, -⟩ := terms_of (h := h) (h2 x hx);rw [h3]; exact ⟨rfl, rfl⟩
theorem stmt_of (k : HasTy Try.prog n 75 d) : StmtR h (toStmt d) (avs d) ∧ (avs d).length = 4 ∧ (avs d).all AV.leaf = true := by
 obtain ⟨m, ds, rfl, hl, hx⟩ := ty_struct k Try.underlying75
 match ds, hl, hx with
 | [a, b, c, e], _, hx =>
  have h0 := (ty_int (hx 0 _ a rfl rfl) Try.underlying3).1;have h1 := ty_str (hx 1 _ b rfl rfl) Try.underlying9;obtain ⟨n1, h2, h3⟩ := strs_of (h := h) (hx 2 _ c rfl rfl);obtain ⟨n2, h4, h5⟩ := exprs_of (h := h) (hx 3 _ e rfl rfl);have e1 : avs (.agg [a, b, c, e]) = [.int .i64 (dInt a), .str (dStr b), .ro n1 (elts (dElems c)), .ro n2 (elts (dElems e))] := by
   simp only [avs, avsAll, h0, h1, h2, h4]; rfl
  rw [e1];exact ⟨⟨_, _, rfl, h3, h5⟩, rfl, rfl⟩
theorem stmts_of (k : HasTy Try.prog n 67 d) : ∃ nl, avs d = [.ro nl (elts (dElems d))] ∧ RowR h 4 StmtR (.ro nl (elts (dElems d))) ((dElems d).map toStmt) := by
 obtain ⟨m, nl, h1, -, h2⟩ := ty_slice k Try.underlying67;exact ⟨nl, h1, rowR_elts h2 (fun x hx => (stmt_of (h2 x hx)).1) (fun x hx => (stmt_of (h := .leaf) (h2 x hx)).2)⟩
theorem decl_of (k : HasTy Try.prog n 118 d) : avs d = dC (toDecl d) ∧ U64 (toDecl d).label := by
 obtain ⟨m, ds, rfl, hl, hx⟩ := ty_struct k Try.underlying118
 match ds, hl, hx with
 | [a, b], _, hx =>
  have h0 := ty_str (hx 0 _ a rfl rfl) Try.underlying9;have h1 := ty_int (hx 1 _ b rfl rfl) Try.underlying64;refine ⟨?_, wf_u64 h1.2⟩;simp only [avs, avsAll, h0, h1.1, toDecl, dC]
  rfl
theorem arrD_of (k : HasTy Try.prog n 66 d) : avs d = adC (toArrD d) ∧ U64 (toArrD d).label := by
 obtain ⟨m, ds, rfl, hl, hx⟩ := ty_struct k Try.underlying66
 match ds, hl, hx with
 | [a, b, c], _, hx =>
  have h0 := ty_str (hx 0 _ a rfl rfl) Try.underlying9;have h1 := (ty_int (hx 1 _ b rfl rfl) Try.underlying3).1;have h2 := ty_int (hx 2 _ c rfl rfl) Try.underlying64;refine ⟨?_, wf_u64 h2.2⟩;simp only [avs, avsAll, h0, h1, h2.1, toArrD, adC]
  rfl
theorem decls_of (k : HasTy Try.prog n 23 d) : ∃ nl, avs d = [.ro nl (elts (dElems d))] ∧ Row h 2 (.ro nl (elts (dElems d))) (((dElems d).map toDecl).map dC) ∧ ∀ x ∈ (dElems d).map toDecl, U64 x.label := by
 obtain ⟨m, nl, h1, -, h2⟩ := ty_slice k Try.underlying23;refine ⟨nl, h1, rowF_elts h2 (fun x hx => (decl_of (h2 x hx)).1) (fun a => ⟨rfl, rfl⟩), fun x hx => ?_⟩;obtain ⟨z, hz, rfl⟩ := List.mem_map.1 hx;exact (decl_of (h2 z hz)).2
theorem arrDs_of (k : HasTy Try.prog n 24 d) : ∃ nl, avs d = [.ro nl (elts (dElems d))] ∧ Row h 3 (.ro nl (elts (dElems d))) (((dElems d).map toArrD).map adC) ∧ ∀ x ∈ (dElems d).map toArrD, U64 x.label := by
 obtain ⟨m, nl, h1, -, h2⟩ := ty_slice k Try.underlying24;refine ⟨nl, h1, rowF_elts h2 (fun x hx => (arrD_of (h2 x hx)).1) (fun a => ⟨rfl, rfl⟩), fun x hx => ?_⟩;obtain ⟨z, hz, rfl⟩ := List.mem_map.1 hx;exact (arrD_of (h2 z hz)).2
theorem labs_of (k : HasTy Try.prog n 35 d) : ∃ nl, avs d = [.ro nl (elts (dElems d))] ∧ Row h 1 (.ro nl (elts (dElems d))) (((dElems d).map dInt).map lC) ∧ ∀ x ∈ (dElems d).map dInt, U64 x := by
 obtain ⟨m, nl, h1, -, h2⟩ := ty_slice k Try.underlying35;refine ⟨nl, h1, rowF_elts h2 (fun x hx => (ty_int (h2 x hx) Try.underlying64).1) (fun a => ⟨rfl, rfl⟩), fun x hx => ?_⟩;obtain ⟨z, hz, rfl⟩ := List.mem_map.1 hx;exact wf_u64 (ty_int (h2 z hz) Try.underlying64).2
def FunL.labs (f : FunL) : Prop := U64 f.level ∧ (∀ d ∈ f.params, U64 d.label) ∧ (∀ l ∈ f.results, U64 l) ∧ ∀ d ∈ f.vars, U64 d.label
theorem fun_of (k : HasTy Try.prog n 69 d) : FunR h (toFun d) (avs d) ∧ ((avs d).length = 6 ∧ (avs d).all AV.leaf = true) ∧ (toFun d).labs := by
 obtain ⟨m, ds, rfl, hl, hx⟩ := ty_struct k Try.underlying69
 match ds, hl, hx with
 | [a, l, p, r, v, b], _, hx =>
  have h0 := ty_str (hx 0 _ a rfl rfl) Try.underlying9;have h1 := ty_int (hx 1 _ l rfl rfl) Try.underlying64;obtain ⟨n1, h2, k2, j2⟩ := decls_of (h := h) (hx 2 _ p rfl rfl);obtain ⟨n2, h3, k3, j3⟩ := labs_of (h := h) (hx 3 _ r rfl rfl);obtain ⟨n3, h4, k4, j4⟩ := decls_of (h := h) (hx 4 _ v rfl rfl);obtain ⟨n4, h5, k5⟩ := stmts_of (h := h) (hx 5 _ b rfl rfl);have e1 : avs (.agg [a, l, p, r, v, b]) = [.str (dStr a), .int .u64 (dInt l), .ro n1 (elts (dElems p)), .ro n2 (elts (dElems r)), .ro n3 (elts (dElems v)), .ro n4 (elts (dElems b))] := by
   simp only [avs, avsAll, h0, h1.1, h2, h3, h4, h5]; rfl
  rw [e1];exact ⟨⟨_, _, _, _, rfl, k2, k3, k4, k5⟩, ⟨rfl, rfl⟩, wf_u64 h1.2, j2, j3, j4⟩
theorem funs_of (k : HasTy Try.prog n 25 d) : ∃ nl, avs d = [.ro nl (elts (dElems d))] ∧ RowR h 6 FunR (.ro nl (elts (dElems d))) ((dElems d).map toFun) ∧ ∀ x ∈ (dElems d).map toFun, x.labs := by
 obtain ⟨m, nl, h1, -, h2⟩ := ty_slice k Try.underlying25;refine ⟨nl, h1, rowR_elts h2 (fun x hx => (fun_of (h2 x hx)).1) (fun x hx => (fun_of (h := .leaf) (h2 x hx)).2.1), fun x hx => ?_⟩;obtain ⟨z, hz, rfl⟩ := List.mem_map.1 hx;exact (fun_of (h := .leaf) (h2 z hz)).2.2
def SrcL.labs (s : SrcL) : Prop := (∀ d ∈ s.globals, U64 d.label) ∧ (∀ d ∈ s.arrays, U64 d.label) ∧ (∀ d ∈ s.channels, U64 d.label) ∧ ∀ f ∈ s.funcs, f.labs
theorem src_of (k : HasTy Try.prog n 27 d) : ∃ c, packE d (avs d) = .agg c ∧ SrcR h (toSrc d) c ∧ (toSrc d).labs := by
 obtain ⟨m, ds, rfl, hl, hx⟩ := ty_struct k Try.underlying27
 match ds, hl, hx with
 | [p, g, a, c, f], _, hx =>
  obtain ⟨n1, h1, k1⟩ := strs_of (h := h) (hx 0 _ p rfl rfl);obtain ⟨n2, h2, k2, j2⟩ := decls_of (h := h) (hx 1 _ g rfl rfl);obtain ⟨n3, h3, k3, j3⟩ := arrDs_of (h := h) (hx 2 _ a rfl rfl);obtain ⟨n4, h4, k4, j4⟩ := decls_of (h := h) (hx 3 _ c rfl rfl);obtain ⟨n5, h5, k5, j5⟩ := funs_of (h := h) (hx 4 _ f rfl rfl);have e1 : avs (.agg [p, g, a, c, f]) = [.ro n1 (elts (dElems p)), .ro n2 (elts (dElems g)), .ro n3 (elts (dElems a)), .ro n4 (elts (dElems c)), .ro n5 (elts (dElems f))] := by
   simp only [avs, avsAll, h1, h2, h3, h4, h5]; rfl
  exact ⟨_, rfl, by rw [e1]; exact ⟨_, _, _, _, _, rfl, k1, k2, k3, k4, k5⟩, j2, j3, j4, j5⟩
end
end Go.Ab
namespace Go.Proofs.Ytdjekmljjhehhaa
open Go.ChangeShapes Go.WideShapes Go.ChangeAt Go.RowKit Go.Ab
section
variable {H : Type}
theorem bulk_pos (d : DataW H) : 1 ≤ Rows.uptoBulk d := by
 cases d with
 | lit l => cases l <;> simp [Rows.uptoBulk]
 | _ => simp [Rows.uptoBulk]
theorem bulk_len : ∀ (es : List (DataW H)), es.length ≤ Rows.uptoBulkAll es
 | [] => by simp [Rows.uptoBulkAll]
 | d :: r => by
  have h1 := bulk_pos d;have h2 := bulk_len r;simp only [Rows.uptoBulkAll, lcc];omega
theorem bulk_mem : ∀ (es : List (DataW H)) (x : DataW H), x ∈ es → Rows.uptoBulk x ≤ Rows.uptoBulkAll es
 | d :: r, x, h => by
  simp only [Rows.uptoBulkAll];rcases List.mem_cons.1 h with rfl | h
  ·omega
  ·have := bulk_mem r x h; omega
theorem elems_len (d : DataW H) : (dElems d).length ≤ Rows.uptoBulk d := by
 cases d with
 | slice es sp => have := bulk_len es; simp only [dElems, Rows.uptoBulk]; omega
 | _ => simp [dElems]
theorem elems_mem (d : DataW H) (x : DataW H) (h : x ∈ dElems d) : Rows.uptoBulk x ≤ Rows.uptoBulk d := by
 cases d with
 | slice es sp => have := bulk_mem es x h; simp only [Rows.uptoBulk]; omega
 | _ => cases h
theorem str_bulk (d : DataW H) : (dStr d).size ≤ Rows.uptoBulk d := by
 cases d with
 | lit l =>
  cases l with
  | string bs =>
   simp only [dStr, Rows.uptoBulk]
   show (List.toArray bs).size ≤ _
   simp
  | _ => simp [dStr]
 | _ => simp [dStr]
theorem str_max {d : DataW H} {b : Nat} (h : Rows.uptoBulk d ≤ b) (hb : b ≤ 2097152) : (dStr d).size ≤ maxBytes := by
 have := str_bulk d;unfold maxBytes;omega
theorem stmt_small (d : DataW H) (h : Rows.uptoBulk d ≤ 2097152) : (toStmt d).small := by
 unfold toStmt;split
 ·rename_i a b c e;simp only [Rows.uptoBulk, Rows.uptoBulkAll] at h;have h1 := elems_len c;have h2 := elems_len e;refine ⟨by simp only [lmm]; omega, by simp only [lmm]; omega, fun ts hts => ?_⟩;obtain ⟨r, hr, rfl⟩ := List.mem_map.1 hts;have h3 := elems_mem e r hr;have h4 := elems_len r;simp only [lmm]; omega
 ·exact ⟨by simp, by simp, fun ts h => by cases h⟩
theorem decl_name (d : DataW H) (h : Rows.uptoBulk d ≤ 2097152) : (toDecl d).name.size ≤ maxBytes := by
 unfold toDecl;split
 ·rename_i a b;simp only [Rows.uptoBulk, Rows.uptoBulkAll] at h;exact str_max (b := 2097152) (by omega) (by omega)
 ·simp
theorem arrD_name (d : DataW H) (h : Rows.uptoBulk d ≤ 2097152) : (toArrD d).name.size ≤ maxBytes := by
 unfold toArrD;split
 ·rename_i a b c;simp only [Rows.uptoBulk, Rows.uptoBulkAll] at h;exact str_max (b := 2097152) (by omega) (by omega)
 ·simp
theorem decls_fine (d : DataW H) (h : Rows.uptoBulk d ≤ 2097152) (k : ∀ x ∈ (dElems d).map toDecl, U64 x.label) : ∀ x ∈ (dElems d).map toDecl, x.fine := fun x hx => by
 have h1 := k x hx;obtain ⟨z, hz, rfl⟩ := List.mem_map.1 hx;have := elems_mem d z hz;exact ⟨decl_name z (by omega), h1⟩
theorem fun_small (d : DataW H) (h : Rows.uptoBulk d ≤ 2097152) (k : (toFun d).labs) : (toFun d).small ∧ (toFun d).fine := by
 unfold toFun at k ⊢;split
 ·rename_i a l p r v b;simp only [Rows.uptoBulk, Rows.uptoBulkAll] at h;have h1 := elems_len p;have h2 := elems_len r;have h3 := elems_len v;have h4 := elems_len b;obtain ⟨k1, k2, k3, k4⟩ := k;refine ⟨⟨by simp only [lmm]; omega, by simp only [lmm]; omega, by simp only [lmm]; omega, by simp only [lmm]; omega, fun x hx => ?_⟩, str_max (b := 2097152) (by omega) (by omega), k1, decls_fine p (by omega) k2, k3, decls_fine v (by omega) k4⟩;obtain ⟨y, hy, rfl⟩ := List.mem_map.1 hx;have := elems_mem b y hy;exact stmt_small y (by omega)
 ·exact ⟨⟨by simp, by simp, by simp, by simp, fun x hx => by cases hx⟩, by simp, (by unfold U64; simp), fun x hx => (by cases hx), fun x hx => (by cases hx), fun x hx => (by cases hx)⟩
theorem src_small (d : DataW H) (h : Rows.uptoBulk d ≤ 2097152) (k : (toSrc d).labs) : (toSrc d).small ∧ (toSrc d).fine := by
 unfold toSrc at k ⊢;split
 ·rename_i p g a c f;simp only [Rows.uptoBulk, Rows.uptoBulkAll] at h;have h1 := elems_len p;have h2 := elems_len g;have h3 := elems_len a;have h4 := elems_len c;have h5 := elems_len f;obtain ⟨k1, k2, k3, k4⟩ := k;have hfn : ∀ x ∈ (dElems f).map toFun, x.small ∧ x.fine := fun x hx => by
   have h6 := k4 x hx;obtain ⟨y, hy, rfl⟩ := List.mem_map.1 hx;have := elems_mem f y hy;exact fun_small y (by omega) h6
  refine ⟨⟨by simp only [lmm]; omega, by simp only [lmm]; omega, by simp only [lmm]; omega, by simp only [lmm]; omega, by simp only [lmm]; omega, fun x hx => (hfn x hx).1⟩, fun x hx => ?_, decls_fine g (by omega) k1, fun x hx => ⟨?_, k2 x hx⟩, decls_fine c (by omega) k3, fun x hx => (hfn x hx).2⟩
  ·obtain ⟨y, hy, rfl⟩ := List.mem_map.1 hx;have := elems_mem p y hy;exact str_max (b := 2097152) (by omega) (by omega)
  ·obtain ⟨y, hy, rfl⟩ := List.mem_map.1 hx;have := elems_mem a y hy;exact arrD_name y (by omega)
 ·exact ⟨⟨by simp, by simp, by simp, by simp, by simp, fun x hx => by cases hx⟩, fun x hx => (by cases hx), fun x hx => (by cases hx), fun x hx => (by cases hx), fun x hx => (by cases hx), fun x hx => (by cases hx)⟩
end
end Go.Proofs.Ytdjekmljjhehhaa
namespace Go.Proofs.Ytdjekmljjhehhaa
open Go.ChangeShapes Go.WideShapes Go.ChangeAt Go.RowKit Go.Ab
theorem flowtypeChecks_own : ownKnob Try.prog.godebug = none := by kernel_rfl
theorem plain27 : Plain Try.prog 10 27 = true := by kernel_rfl
theorem flowtypeChecks_walk {H : Type} {enc : TypeId × Value → H} {W : World} {base : Nat} {v : Value} {d : DataW H} {ps : List MemPlace} (hval : Value.okWide Try.prog W .any base 27 v)
  (h : DataW.Trod enc Try.prog W 0 (fun _ => true) true 27 v d ps) (hb : Rows.uptoBulk d ≤ 1048576) :
  Calls Try.prog 3 #[v] W fun e w' => e = .returned (.bool true) ∧ Below W.heap.size W w' := by
 obtain ⟨fuel, hf⟩ := h;have hr := read_ok (ρ := fun _ _ => none) fuel 27 _ _ hf 10 plain27;obtain ⟨c, e1, k1, k2⟩ := src_of (h := .leaf) hr.1;obtain ⟨k3, k4⟩ := src_small d (by omega) k2;have hv := packE_vr hr hval;rw [e1] at hv;exact run_ok prog_mixed tt_ok prog_ng (noK_ok _) (by decide) rfl (GlOk.none _ _) (flowtypeChecks_run zero_ok k3 k4 k1) (CR.sole hv)
theorem flowtypeChecks_contract (H : Type) (enc : TypeId × Value → H) (W : World) (base : Nat) (args : Array Value) (ds gs : List (DataW H)) (before : List MemPlace)
  (hval : ∀ (j : Nat) t v, Try.f3.params[j]? = some t → args[j]? = some v → Value.okWide Try.prog W .any base t v)
  (hW : DataW.Whole enc Try.prog Try.f3.params.toList Rows.flowtypeChecksSpec.vars false W args.toList ds gs before) (hk : Rows.uptoSmall H (ds ++ gs) = true) :
  Calls Try.prog 3 args W fun e W' => ∃ v, e = .returned v ∧ Rows.flowtypeChecksSpec.post enc Try.prog Try.f3 false true false false W args v W' := by
 have hW' := hW;have hlt := hW.lt;obtain ⟨p, q, hA0, hV, rfl, hfz, hnd⟩ := hW;have hA : DataW.TrodAll enc Try.prog W 0 (fun _ => true) true Try.f3.params.toList args.toList ds p := hA0;rw [Try.params3] at hA hval;obtain ⟨v0, vs0, d0, ds0, p0, q0, hargs, rfl, rfl, h0, r0⟩ := trodAll_cons hA;obtain ⟨rfl, rfl, rfl⟩ := trodAll_nil r0;obtain rfl : args = #[v0] := by cases args; simp_all
 obtain ⟨rfl, rfl⟩ := trodVars_none hV;clear hA0;simp only [List.append_nil] at hW' hlt;have hb := of_decide_eq_true hk;simp only [List.append_nil, Rows.uptoBulkAll] at hb;refine (flowtypeChecks_walk (hval 0 27 v0 rfl rfl) h0 (by omega)).mono fun e W' ⟨he, bel⟩ => ?_;subst he;exact ⟨_, rfl, _, _, _, [], _, [], hW', trodAll_mk1 (shut_bool Try.underlying4 _), trodAll_cons_mk (Below.trod (by kernel_rfl) (by kernel_rfl) (of_decide_eq_true (by kernel_rfl)) h0 bel (fun x hx => hlt x hx)) trodAll_mk0, rfl, bel.frame _, fun h => by cases h⟩
theorem flowtypeChecks_lifted (os : Os) (started : os.Started) (H : Type) (enc : TypeId × Value → H) (F : Stop.Interp) :
  ReturnsInHanded {} Try.checked os 3 .any ((Rows.OpenSpec.upto Rows.flowtypeChecksSpec).pre6 enc Try.prog Try.f3 Rows.flowtypeChecksUptoRow.domain false) (((Rows.OpenSpec.upto Rows.flowtypeChecksSpec).at F).post enc Try.prog Try.f3 false true false false) := by
 refine returnsInHanded_of_cond (C := Try.checked) (s := Rows.OpenSpec.upto Rows.flowtypeChecksSpec) (k := Rows.uptoSmall) rfl flowtypeChecks_own started (by kernel_rfl) Try.func3
  (OpenSpec.witness (enc := enc) (C := Try.checked) (s := Rows.OpenSpec.upto Rows.flowtypeChecksSpec) (k := Rows.uptoSmall) rfl false ⟨#[], #[.agg #[.slice none 0 0, .slice none 0 0, .slice none 0 0, .slice none 0 0, .slice none 0 0]], []⟩ 8 (by kernel_rfl) (by kernel_rfl) (by kernel_rfl)
    (x := ([.agg [.nil, .nil, .nil, .nil, .nil]], [], [])) (by kernel_rfl) rfl (by kernel_rfl)) ?_
 intro W base args ds gs before hval hW _ hk _;exact flowtypeChecks_contract H enc W base args ds gs before hval hW hk
theorem flowtypeChecksUpto_holds : Rows.FlowtypeChecksUptoSaid :=
 OpenClaim.holds_of_cond 3 Try.f3 rfl rfl rfl rfl rfl rfl rfl ⟨rfl, rfl, rfl, rfl, rfl⟩ rfl rfl rfl rfl rfl (by kernel_rfl) Try.func3 (by kernel_rfl)
  (of_decide_eq_true (by kernel_rfl)) (by unfold Func.isWrapper; first | (rw [if_pos (by decide +kernel)]; kernel_rfl) | (rw [if_neg (by decide +kernel)]; exact ⟨rfl, rfl⟩))
  (fun os started H enc _ F => flowtypeChecks_lifted os started H enc F)
end Go.Proofs.Ytdjekmljjhehhaa
