/- 'Rows.LinkTwoUptoSaid': whatever two modules come in (together of bulk at most 1048576), the law returns true and they read as they did. -/
import Derived.Test.YtdpdlmjlahehoaaLinkTwo5
import Derived.ChangeArms
import Derived.WideShapes
import Derived.Test.YtdpdlmjlahehoaaRows
import Derived.WalkKit
import Derived.ProofKit
import Derived.OpenShut
import Derived.JoinedCond
import Derived.Below
import Derived.Carry
/- Lists that were handed out are written over: they are apart. -/
namespace Go.Ab
open Go.Proofs
theorem fillS1 {a : AV} (ha : a.leaf = true) : fillA (fun n => some (n * 1, 1)) [AV.nils] [(0, a)] = some [a] := by
  simp [fillA, AV.cells_leaf ha, over]
theorem natA_add (k : IntKind) (a b : Nat) : natA (.int k ((a : Int) + (b : Nat))) = some (a + b) := by
  have : ((a : Int) + (b : Nat)) = ((a + b : Nat) : Int) := by omega
  rw [this]; exact natA_cast _ _
theorem finA_keep {X : List Nat} {s s' : St} {sz : Nat} {v : AV} {cs : List (List AV)} (hr : Row s.h sz v cs) (hk : Keep X s s') (hX : ∀ g ∈ v.gs, g ∉ X) : finA s'.h v = finA s.h v :=
  finA_same fun g hg => by
    obtain ⟨G, hG⟩ := hr.has g hg
    rw [hG]; exact hk.keep g (hX g hg) G hG
def mkL (i k : Nat) : Int := 1000 * (i : Int) + (k : Nat)
def tlL (i k : Nat) : Int := 500000 + 1000 * (i : Int) + (k : Nat)
def mkI (i k : Nat) : InstrL := ⟨1000 * (i : Int) + (k : Nat), 0⟩
def tlI (i k : Nat) : InstrL := ⟨500000 + 1000 * (i : Int) + (k : Nat), 0⟩
set_option maxRecDepth 10000 in
set_option maxHeartbeats 8000000 in
/-- Lists of labels. -/
theorem apartLabels_ok {s : St} {v : AV} {data : List (AV × List Int)} (hok : s.Ok) (hv : Row s.h 1 v (data.map fun p => [p.1])) (hvX : ∀ g ∈ v.gs, g ∉ data.flatMap (·.1.gs)) (hr : ∀ p ∈ data, Row s.h 1 p.1 (p.2.map lC)) (hd : (data.map (·.1)).Pairwise Dis) (hn : ∀ p ∈ data, p.1.gs = [] → p.1 = .nils)
    (hl1 : data.length ≤ 1000000) (hl2 : ∀ p ∈ data, p.2.length ≤ 2097152) : CallS Try.prog Tt Kt 82 [v] s (fun r s' => Keep (data.flatMap (·.1.gs)) s s' ∧ r = .bool true) := by
  have hb : ∀ p ∈ data, ∀ g ∈ p.1.gs, g < s.ctr := fun p hp => (hr p hp).lt hok
  refine call_of (fn := Try.f82) (nt := 130) Try.func82 rfl rfl rfl ?_
  repeat refine wc_seq ?_
  refine wc_region ?_
  refine w_val rfl rfl (op_pure rfl) ?_
  refine w_nil ?_
  refine then_n ?_
  repeat refine wc_seq ?_
  have hK := Keep.refl hok
  have hvl : v.slen = some data.length := hv.slenF
  have hI : RowsI s.h 1 lC data (MarkG mkL 0 0) := fun q p hq => ⟨p.2, rfl, hr p (List.mem_of_getElem? hq), MarkG.zero _ _ _⟩
  have hK : Keep (data.flatMap (·.1.gs)) s s := hK.more (fun g hg => by cases hg)
  refine wc_region ?_
  refine w_val rfl rfl (op_pure rfl) ?_
  refine w_nil ?_
  refine then_n ?_
  repeat refine wc_seq ?_
  refine wc_block ?_
  refine wc_loop_at (fun j m z => ∃ i : Nat, j = data.length - i ∧ i ≤ data.length ∧ m = [(0, v), (3, .int .i64 (i : Nat))] ∧ Keep (data.flatMap (·.1.gs)) s z ∧ RowsI z.h 1 lC data (MarkG mkL i 0)) data.length
    [(0, v), (3, .int .i64 ((0 : Nat) : Int))] (Sub.cons rfl (Sub.cons rfl (Sub.nil _))) ⟨0, by simp, by simp, rfl, hK, hI⟩ ?_
  clear hK hI
  rintro j m z ⟨i, rfl, hi, rfl, hK, hI⟩
  have hvz := hv.keep hK hvX
  repeat refine wc_seq ?_
  refine wc_region ?_
  refine w_val rfl rfl (op_pure rfl) ?_
  refine w_val rfl rfl (op_pure rfl) ?_
  refine w_val rfl rfl (op_len rfl rfl rfl rfl rfl (by assumption)) ?_
  refine w_val rfl rfl (op_pure rfl) ?_
  refine w_nil ?_
  refine then_n ?_
  repeat refine wc_seq ?_
  refine wc_condT rfl (fun h16 => ?_) (fun h16 => ?_)
  · simp only [decide_eq_true_eq] at h16
    refine wc_skip ?_
    refine then_n ?_
    repeat refine wc_seq ?_
    refine wc_block ?_
    repeat refine wc_seq ?_
    obtain ⟨p, hp⟩ : ∃ x, data[i]? = some x := ⟨_, List.getElem?_eq_getElem (by omega)⟩
    have hpm := List.mem_of_getElem? hp
    have hpl := hl2 p hpm
    refine wc_region ?_
    refine w_val rfl rfl (op_pure rfl) ?_
    refine w_nil ?_
    refine then_n ?_
    refine wc_block ?_
    refine wc_loop_at (fun j m z => ∃ k : Nat, j = p.2.length - k ∧ k ≤ p.2.length ∧ m = [(0, v), (3, .int .i64 (i : Nat)), (4, .int .i64 (k : Nat))] ∧ Keep (data.flatMap (·.1.gs)) s z ∧ RowsI z.h 1 lC data (MarkG mkL i k)) p.2.length
      [(0, v), (3, .int .i64 (i : Nat)), (4, .int .i64 ((0 : Nat) : Int))] (Sub.cons rfl (Sub.cons rfl (Sub.cons rfl (Sub.nil _)))) ⟨0, by simp, by simp, rfl, hK, hI⟩ ?_
    clear hK hI hvz
    rintro j1 m1 z ⟨k, rfl, hk, rfl, hK, hI⟩
    have hvz := hv.keep hK hvX
    obtain ⟨xs, hxl, hxr, hxG⟩ := hI i p hp
    have hxs : p.1.slen = some p.2.length := hxr.slenF.trans (congrArg some hxl)
    repeat refine wc_seq ?_
    refine wc_region ?_
    refine w_val rfl rfl (op_pure rfl) ?_
    refine w_val rfl rfl (op_pure rfl) ?_
    refine w_val rfl rfl (op_pure rfl) ?_
    refine w_val rfl rfl (op_idxF rfl rfl (natA_cast _ _) rfl rfl rfl rfl (by assumption) (by omega)) ?_
    refine w_val rfl rfl (op_load rfl rfl (Row.mk_pt hvz hp) rfl) ?_
    refine w_val rfl rfl (op_len rfl rfl rfl rfl rfl (by assumption)) ?_
    refine w_val rfl rfl (op_pure rfl) ?_
    refine w_nil ?_
    refine then_n ?_
    repeat refine wc_seq ?_
    refine wc_condT rfl (fun h25 => ?_) (fun h25 => ?_)
    · simp only [decide_eq_true_eq] at h25
      refine wc_skip ?_
      refine then_n ?_
      repeat refine wc_seq ?_
      refine wc_block ?_
      refine wc_region ?_
      refine w_val rfl rfl (op_pure rfl) ?_
      refine w_val rfl rfl (op_pure rfl) ?_
      refine w_val rfl rfl (op_idxF rfl rfl (natA_cast _ _) rfl rfl rfl rfl (by assumption) (by omega)) ?_
      refine w_val rfl rfl (op_load rfl rfl (Row.mk_pt hvz hp) rfl) ?_
      refine w_val rfl rfl (op_pure rfl) ?_
      refine w_val rfl rfl (op_pure rfl) ?_
      refine w_val rfl rfl (op_mul rfl rfl (by unfold In64; omega)) ?_
      refine w_val rfl rfl (op_pure rfl) ?_
      refine w_val rfl rfl (op_add rfl rfl (by unfold In64; omega)) ?_
      refine w_val rfl rfl (op_cv (r := 1000 * (i : Int) + (k : Nat)) rfl rfl rfl rfl rfl (wrapU64 (by omega) (by omega))) ?_
      refine w_val rfl rfl (op_idxF rfl rfl (natA_cast _ _) rfl rfl rfl rfl hxr (by omega)) ?_
      refine w_store_row rfl rfl rfl rfl rfl rfl rfl hK.ok hxr (fun e => by have := hn p hpm e; rw [this] at hxr; have h0 := congrArg List.length (show xs.map lC = [] from hxr); rw [List.length_map, List.length_nil] at h0; omega) (by rw [List.length_map]; omega) ?_
      intro zz hx2 hk2 hc2
      have hI := hI.upd hd hp hk2 (xs := xs.set k (mkL i k)) (G' := MarkG mkL i (k + 1)) (by rw [List.map_set]; exact hx2) (by rw [List.length_set]; exact hxl) (hxG.step (by omega)) (fun q xs hq h => h.other hq)
      have hK := hK.trans hk2 (fun g hg => .inl (List.mem_flatMap.2 ⟨p, hpm, hg⟩))
      clear hx2 hk2 hc2 hxr hxG
      refine w_nil ?_
      refine out_n ?_
      refine then_n ?_
      refine wc_region ?_
      refine w_val rfl rfl (op_pure rfl) ?_
      refine w_val rfl rfl (op_add rfl rfl (by unfold In64; omega)) ?_
      refine w_val rfl rfl (op_pure rfl) ?_
      refine w_nil ?_
      exact round_n _ _ (by omega) (Sub.cons rfl (Sub.cons rfl (Sub.cons rfl (Sub.nil _)))) ⟨k + 1, rfl, by omega, rfl, hK, hI⟩
    simp only [decide_eq_false_iff_not] at h25
    obtain rfl : k = p.2.length := by omega
    replace hI := hI.mono (G' := MarkG mkL (i + 1) 0) (fun q p' xs hq hx h => h.next fun e => by subst e; rw [hp] at hq; cases hq; omega)
    clear hxr hxG hxs
    refine wc_exit ?_
    repeat first | refine then_x ?_ | refine round_x ?_ | refine cut_x ?_ | refine out_x' (by decide) ?_
    refine out_x ?_
    refine out_n ?_
    refine then_n ?_
    refine wc_region ?_
    refine w_val rfl rfl (op_pure rfl) ?_
    refine w_val rfl rfl (op_add rfl rfl (by unfold In64; omega)) ?_
    refine w_val rfl rfl (op_pure rfl) ?_
    refine w_nil ?_
    exact round_n _ _ (by omega) (Sub.cons rfl (Sub.cons rfl (Sub.nil _))) ⟨i + 1, rfl, by omega, rfl, hK, hI⟩
  simp only [decide_eq_false_iff_not] at h16
  obtain rfl : i = data.length := by omega
  refine wc_exit ?_
  repeat first | refine then_x ?_ | refine round_x ?_ | refine cut_x ?_ | refine out_x' (by decide) ?_
  refine out_x ?_
  refine then_n ?_
  repeat refine wc_seq ?_
  have hcut := hK.ctr
  have hA : Ap2 s 1 lC data mkL tlL 0 z.ctr [] .nils z := ⟨hK, hI.mono fun q p xs hq _ h => h.1 (List.getElem?_eq_some_iff.1 hq).1, rfl, fun j w p h => (by simp at h), rfl, fun g hg => (by cases hg), fun _ => rfl, fun j w h => (by simp at h), ⟨hcut, Nat.le_refl _⟩⟩
  clear hI hK hvz
  refine wc_region ?_
  refine w_val rfl rfl (op_pure rfl) ?_
  refine w_nil ?_
  refine then_n ?_
  repeat refine wc_seq ?_
  refine wc_region ?_
  refine w_val rfl rfl (op_pure rfl) ?_
  refine w_nil ?_
  refine then_n ?_
  repeat refine wc_seq ?_
  refine wc_block ?_
  refine wc_loop_at (fun j m z => ∃ (i cut : Nat) (ms : List AV) (F : AV), j = data.length - i ∧ i ≤ data.length ∧ m = [(0, v), (5, F), (6, .int .i64 (i : Nat))] ∧ Ap2 s 1 lC data mkL tlL i cut ms F z) data.length
    [(0, v), (5, .nils), (6, .int .i64 ((0 : Nat) : Int))] (Sub.cons rfl (Sub.cons rfl (Sub.cons rfl (Sub.nil _)))) ⟨0, _, _, _, by simp, by simp, rfl, hA⟩ ?_
  clear hA hcut
  rintro j m z ⟨i, cut, ms, F, rfl, hi, rfl, hA⟩
  have hvz := hv.keep hA.K hvX
  have hcut := hA.cutb
  repeat refine wc_seq ?_
  refine wc_region ?_
  refine w_val rfl rfl (op_pure rfl) ?_
  refine w_val rfl rfl (op_pure rfl) ?_
  refine w_val rfl rfl (op_len rfl rfl rfl rfl rfl (by assumption)) ?_
  refine w_val rfl rfl (op_pure rfl) ?_
  refine w_nil ?_
  refine then_n ?_
  repeat refine wc_seq ?_
  refine wc_condT rfl (fun h42 => ?_) (fun h42 => ?_)
  · simp only [decide_eq_true_eq] at h42
    refine wc_skip ?_
    refine then_n ?_
    repeat refine wc_seq ?_
    refine wc_block ?_
    repeat refine wc_seq ?_
    obtain ⟨p, hp⟩ : ∃ x, data[i]? = some x := ⟨_, List.getElem?_eq_getElem (by omega)⟩
    have hpm := List.mem_of_getElem? hp
    have hpl := hl2 p hpm
    obtain ⟨xs, hxl, hxr, hxG⟩ := hA.old i p hp
    unfold FullG at hxG
    rw [hxl] at hxG
    rw [hxG] at hxr
    clear hxG hxl
    refine wc_region ?_
    refine w_val rfl rfl (op_pure rfl) ?_
    refine w_val rfl rfl (op_pure rfl) ?_
    refine w_val rfl rfl (op_idxF rfl rfl (natA_cast _ _) rfl rfl rfl rfl (by assumption) (by omega)) ?_
    refine w_val rfl rfl (op_load rfl rfl (Row.mk_pt hvz hp) rfl) ?_
    refine w_val rfl rfl (op_pure rfl) ?_
    refine w_nil ?_
    refine then_n ?_
    repeat refine wc_seq ?_
    refine wc_region ?_
    refine w_val rfl rfl (op_pure rfl) ?_
    refine w_nil ?_
    refine then_n ?_
    repeat refine wc_seq ?_
    refine wc_block ?_
    refine wc_loop_at (fun j m z => ∃ (k : Nat) (l : AV), j = 30 - k ∧ k ≤ 30 ∧ m = [(0, v), (5, F), (6, .int .i64 (i : Nat)), (7, l), (8, .int .i64 (k : Nat))] ∧ Ap2 s 1 lC data mkL tlL i cut ms F z ∧ Row z.h 1 p.1 ((fullM mkL i p.2.length).map lC) ∧ Row z.h 1 l ((fullM mkL i p.2.length ++ fullM tlL i k).map lC) ∧
        (∀ g ∈ l.gs, g ∈ p.1.gs ∨ cut ≤ g) ∧ (l.gs = [] → l = .nils) ∧ (∀ g ∈ p.1.gs, g ∈ l.gs → finA z.h p.1 ≤ finA z.h l)) 30
      [(0, v), (5, F), (6, .int .i64 (i : Nat)), (7, p.1), (8, .int .i64 ((0 : Nat) : Int))] (Sub.cons rfl (Sub.cons rfl (Sub.cons rfl (Sub.cons rfl (Sub.cons rfl (Sub.nil _)))))) ⟨0, p.1, by simp, by simp, rfl, hA, hxr, by simpa [fullM] using hxr, fun g hg => .inl hg, hn p hpm, fun g _ _ => Nat.le_refl _⟩ ?_
    clear hA hxr hvz
    rintro j1 m1 z ⟨k, l, rfl, hk, rfl, hA, hxr, hl, hlb, hln, hlf⟩
    have hcut := hA.cutb
    repeat refine wc_seq ?_
    refine wc_region ?_
    refine w_val rfl rfl (op_pure rfl) ?_
    refine w_val rfl rfl (op_pure rfl) ?_
    refine w_nil ?_
    refine then_n ?_
    repeat refine wc_seq ?_
    refine wc_condT rfl (fun h50 => ?_) (fun h50 => ?_)
    · simp only [decide_eq_true_eq] at h50
      refine wc_skip ?_
      refine then_n ?_
      repeat refine wc_seq ?_
      refine wc_block ?_
      refine wc_region ?_
      refine w_val rfl rfl (op_pure rfl) ?_
      refine w_val rfl rfl (op_pure rfl) ?_
      refine w_val rfl rfl (op_mul rfl rfl (by unfold In64; omega)) ?_
      refine w_val rfl rfl (op_add rfl rfl (by unfold In64; omega)) ?_
      refine w_val rfl rfl (op_pure rfl) ?_
      refine w_val rfl rfl (op_add rfl rfl (by unfold In64; omega)) ?_
      refine w_val rfl rfl (op_cv (r := 500000 + 1000 * (i : Int) + (k : Nat)) rfl rfl rfl rfl rfl (wrapU64 (by omega) (by omega))) ?_
      refine w_lit1 (c := [.int .u64 (500000 + 1000 * (i : Int) + (k : Nat))]) rfl rfl rfl rfl rfl rfl rfl (by decide) (by decide) rfl rfl rfl hA.K.ok ?_
      rintro b z1 hb1 hk1 hc1 hg1
      have hA := hA.grow hd hb hp hk1 (fun g hg => by cases hg) (fun xs h => h.keep0 hk1)
      have hfp : finA z1.h p.1 = finA z.h p.1 := finA_keep hxr hk1 (fun g _ h => by cases h)
      have hfl : finA z1.h l = finA z.h l := finA_keep hl hk1 (fun g _ h => by cases h)
      rw [← hfp, ← hfl] at hlf
      have hxr := hxr.keep0 hk1
      have hl := hl.keep0 hk1
      have hcz : cut ≤ z1.ctr := by have := hA.cutb; omega
      clear hfp hfl hk1 hc1 hg1
      refine w_appendK (sz := 1) (ns := [tlL i k].map lC) rfl rfl rfl rfl rfl rfl rfl rfl rfl rfl (by decide) hA.K.ok hl hln hb1 (by simp only [List.length_map, List.length_append, List.length_cons, List.length_nil, fullM_len, maxBytes]; omega) (by simp only [List.length_map, List.length_append, List.length_cons, List.length_nil, fullM_len, maxBytes]; omega) ?_
      rintro l2 z2 hl2' hk2 hc2 hg2 hn2 - hap
      rw [← List.map_append, List.append_assoc, show fullM tlL i k ++ [tlL i k] = fullM tlL i (k + 1) by simp [fullM, List.range_succ]] at hl2'
      have hlt := hxr.lt hA.K.ok
      obtain ⟨hx2, hfx⟩ := hap.rows hxr hlf
      have hlf2 : ∀ g ∈ p.1.gs, g ∈ l2.gs → finA z2.h p.1 ≤ finA z2.h l2 := fun g h1 h2 => by
        rcases hg2 with e | e
        · rw [e] at h2
          rw [hfx, hap.fin e (fun e0 => by rw [e0] at h2; cases h2)]
          exact Nat.le_trans (hlf g h1 h2) (Nat.le_add_right _ _)
        · rw [e] at h2; have := hlt g h1; rw [List.mem_singleton.1 h2] at this; omega
      have hlb2 : ∀ g ∈ l2.gs, g ∈ p.1.gs ∨ cut ≤ g := fun g h => by
        rcases hg2 with e | e
        · rw [e] at h; exact hlb g h
        · rw [e] at h; rw [List.mem_singleton.1 h]; exact .inr hcz
      have hA := hA.grow hd hb hp hk2 hlb (fun xs h => (hap.rows h hlf).1)
      clear hap hfx hxr hl hb1
      refine w_val rfl rfl (op_pure rfl) ?_
      refine w_nil ?_
      refine out_n ?_
      refine then_n ?_
      refine wc_region ?_
      refine w_val rfl rfl (op_pure rfl) ?_
      refine w_val rfl rfl (op_add rfl rfl (by unfold In64; omega)) ?_
      refine w_val rfl rfl (op_pure rfl) ?_
      refine w_nil ?_
      exact round_n _ _ (by omega) (Sub.cons rfl (Sub.cons rfl (Sub.cons rfl (Sub.cons rfl (Sub.cons rfl (Sub.nil _)))))) ⟨k + 1, l2, rfl, by omega, rfl, hA, hx2, hl2', hlb2, hn2, hlf2⟩
    simp only [decide_eq_false_iff_not] at h50
    obtain rfl : k = 30 := by omega
    refine wc_exit ?_
    repeat first | refine then_x ?_ | refine round_x ?_ | refine cut_x ?_ | refine out_x' (by decide) ?_
    refine out_x ?_
    refine then_n ?_
    refine wc_region ?_
    refine w_val rfl rfl (op_pure rfl) ?_
    refine w_val rfl rfl (op_pure rfl) ?_
    refine w_lit1 (c := [l]) rfl rfl rfl rfl rfl rfl rfl (by decide) (by decide) (fillS1 hl.leaf) (by simp only [List.all_cons, List.all_nil, hl.leaf]; rfl) rfl hA.K.ok ?_
    rintro b z1 hb1 hk1 hc1 -
    have hA := hA.grow hd hb hp hk1 (fun g hg => by cases hg) (fun xs h => h.keep0 hk1)
    have hl := hl.keep0 hk1
    clear hk1 hc1
    refine w_append rfl rfl rfl rfl rfl rfl rfl rfl rfl (by decide) hA.K.ok hA.rF hA.Fn hb1 (by rw [List.length_map, hA.len]; simp only [List.length_cons, List.length_nil, maxBytes]; omega) (by rw [List.length_map, hA.len]; simp only [List.length_cons, List.length_nil, maxBytes]; omega) ?_
    rintro F2 z2 hF2 hk2 - hg2 hn2 -
    have hA := hA.push hb hp hl hlb hF2 hk2 hg2 hn2
    refine w_val rfl rfl (op_pure rfl) ?_
    refine w_nil ?_
    refine out_n ?_
    refine then_n ?_
    refine wc_region ?_
    refine w_val rfl rfl (op_pure rfl) ?_
    refine w_val rfl rfl (op_add rfl rfl (by unfold In64; omega)) ?_
    refine w_val rfl rfl (op_pure rfl) ?_
    refine w_nil ?_
    exact round_n _ _ (by omega) (Sub.cons rfl (Sub.cons rfl (Sub.cons rfl (Sub.nil _)))) ⟨i + 1, _, _, F2, rfl, by omega, rfl, hA⟩
  simp only [decide_eq_false_iff_not] at h42
  obtain rfl : i = data.length := by omega
  refine wc_exit ?_
  repeat first | refine then_x ?_ | refine round_x ?_ | refine cut_x ?_ | refine out_x' (by decide) ?_
  refine out_x ?_
  refine then_n ?_
  repeat refine wc_seq ?_
  have hFz := hA.rF
  have hml := hA.len
  refine wc_region ?_
  refine w_val rfl rfl (op_pure rfl) ?_
  refine w_nil ?_
  refine then_n ?_
  repeat refine wc_seq ?_
  refine wc_block ?_
  refine wc_loop_at (fun j m z' => ∃ i : Nat, j = data.length - i ∧ i ≤ data.length ∧ m = [(0, v), (5, F), (9, .int .i64 (i : Nat))] ∧ z = z') data.length
    [(0, v), (5, F), (9, .int .i64 ((0 : Nat) : Int))] (Sub.cons rfl (Sub.cons rfl (Sub.cons rfl (Sub.nil _)))) ⟨0, by simp, by simp, rfl, rfl⟩ ?_
  rintro j m _ ⟨i, rfl, hi, rfl, rfl⟩
  repeat refine wc_seq ?_
  refine wc_region ?_
  refine w_val rfl rfl (op_pure rfl) ?_
  refine w_val rfl rfl (op_pure rfl) ?_
  refine w_val rfl rfl (op_len rfl rfl rfl rfl rfl (by assumption)) ?_
  refine w_val rfl rfl (op_pure rfl) ?_
  refine w_nil ?_
  refine then_n ?_
  repeat refine wc_seq ?_
  refine wc_condT rfl (fun h69 => ?_) (fun h69 => ?_)
  · simp only [decide_eq_true_eq] at h69
    refine wc_skip ?_
    refine then_n ?_
    repeat refine wc_seq ?_
    refine wc_block ?_
    repeat refine wc_seq ?_
    obtain ⟨p, hp⟩ : ∃ x, data[i]? = some x := ⟨_, List.getElem?_eq_getElem (by omega)⟩
    have hpm := List.mem_of_getElem? hp
    have hpl := hl2 p hpm
    obtain ⟨xs, hxl, hxr, hxG⟩ := hA.old i p hp
    unfold FullG at hxG
    rw [hxl] at hxG
    rw [hxG] at hxr
    clear hxG hxl
    have hxs : p.1.slen = some p.2.length := hxr.slenF.trans (by rw [fullM_len])
    obtain ⟨w, hw⟩ : ∃ x, ms[i]? = some x := ⟨_, List.getElem?_eq_getElem (by omega)⟩
    obtain ⟨hwr, -⟩ := hA.new i w p hw hp
    refine wc_region ?_
    refine w_val rfl rfl (op_pure rfl) ?_
    refine w_val rfl rfl (op_pure rfl) ?_
    refine w_val rfl rfl (op_idxF rfl rfl (natA_cast _ _) rfl rfl rfl rfl (by assumption) (by omega)) ?_
    refine w_val rfl rfl (op_load rfl rfl (Row.mk_pt hvz hp) rfl) ?_
    refine w_val rfl rfl (op_len rfl rfl rfl rfl rfl (by assumption)) ?_
    refine w_val rfl rfl (op_pure rfl) ?_
    refine w_nil ?_
    refine then_n ?_
    repeat refine wc_seq ?_
    refine wc_region ?_
    refine w_val rfl rfl (op_pure rfl) ?_
    refine w_nil ?_
    refine then_n ?_
    repeat refine wc_seq ?_
    refine wc_block ?_
    refine wc_loop_at (fun j m z' => ∃ k : Nat, j = p.2.length - k ∧ k ≤ p.2.length ∧ m = [(0, v), (5, F), (9, .int .i64 (i : Nat)), (10, .int .i64 (p.2.length : Nat)), (11, .int .i64 (k : Nat))] ∧ z = z') p.2.length
      [(0, v), (5, F), (9, .int .i64 (i : Nat)), (10, .int .i64 (p.2.length : Nat)), (11, .int .i64 ((0 : Nat) : Int))] (Sub.cons rfl (Sub.cons rfl (Sub.cons rfl (Sub.cons rfl (Sub.cons rfl (Sub.nil _)))))) ⟨0, by simp, by simp, rfl, rfl⟩ ?_
    rintro j1 m1 _ ⟨k, rfl, hk, rfl, rfl⟩
    repeat refine wc_seq ?_
    refine wc_region ?_
    refine w_val rfl rfl (op_pure rfl) ?_
    refine w_val rfl rfl (op_pure rfl) ?_
    refine w_val rfl rfl (op_pure rfl) ?_
    refine w_nil ?_
    refine then_n ?_
    repeat refine wc_seq ?_
    refine wc_condT rfl (fun h79 => ?_) (fun h79 => ?_)
    · simp only [decide_eq_true_eq] at h79
      refine wc_skip ?_
      refine then_n ?_
      repeat refine wc_seq ?_
      refine wc_block ?_
      repeat refine wc_seq ?_
      have hxk : (fullM mkL i p.2.length)[k]? = some (mkL i k) := fullM_get _ (by omega)
      have hwk : (fullM mkL i p.2.length ++ fullM tlL i 30)[k]? = some (mkL i k) := by rw [List.getElem?_append_left (by rw [fullM_len]; omega)]; exact hxk
      refine wc_region ?_
      refine w_val rfl rfl (op_pure rfl) ?_
      refine w_val rfl rfl (op_pure rfl) ?_
      refine w_val rfl rfl (op_idxF rfl rfl (natA_cast _ _) rfl rfl rfl rfl (by assumption) (by omega)) ?_
      refine w_val rfl rfl (op_load rfl rfl (Row.mk_pt hvz hp) rfl) ?_
      refine w_val rfl rfl (op_pure rfl) ?_
      refine w_val rfl rfl (op_idxF rfl rfl (natA_cast _ _) rfl rfl rfl rfl hxr (by rw [fullM_len]; omega)) ?_
      refine w_val rfl rfl (op_load rfl rfl (Row.mk_pt hxr hxk) rfl) ?_
      refine w_val rfl rfl (op_cv (r := mkL i k) rfl rfl rfl rfl rfl (wrap64 (by unfold In64 mkL; omega))) ?_
      refine w_val rfl rfl (op_pure rfl) ?_
      refine w_val rfl rfl (op_mul rfl rfl (by unfold In64; omega)) ?_
      refine w_val rfl rfl (op_pure rfl) ?_
      refine w_val rfl rfl (op_add rfl rfl (by unfold In64; omega)) ?_
      refine w_val rfl rfl (op_int (v := .bool false) rfl rfl (by decide) (by simp [intA, mkL])) ?_
      refine w_val rfl rfl (op_pure rfl) ?_
      refine w_split (i := 95) rfl (fun h95 => ?_) (fun h95 => ?_)
      · cases h95
      skip
      refine w_val rfl rfl (op_pure rfl) ?_
      refine w_val rfl rfl (op_pure rfl) ?_
      refine w_val rfl rfl (op_idxF rfl rfl (natA_cast _ _) rfl rfl rfl rfl hFz (by omega)) ?_
      refine w_val rfl rfl (op_load rfl rfl (Row.mk_pt hFz hw) rfl) ?_
      refine w_val rfl rfl (op_pure rfl) ?_
      refine w_val rfl rfl (op_idxF rfl rfl (natA_cast _ _) rfl rfl rfl rfl hwr (by rw [List.length_append, fullM_len, fullM_len]; omega)) ?_
      refine w_val rfl rfl (op_load rfl rfl (Row.mk_pt hwr hwk) rfl) ?_
      refine w_val rfl rfl (op_cv (r := mkL i k) rfl rfl rfl rfl rfl (wrap64 (by unfold In64 mkL; omega))) ?_
      refine w_val rfl rfl (op_pure rfl) ?_
      refine w_val rfl rfl (op_mul rfl rfl (by unfold In64; omega)) ?_
      refine w_val rfl rfl (op_pure rfl) ?_
      refine w_val rfl rfl (op_add rfl rfl (by unfold In64; omega)) ?_
      refine w_val rfl rfl (op_int (v := .bool false) rfl rfl (by decide) (by simp [intA, mkL])) ?_
      refine w_val rfl rfl (op_pure rfl) ?_
      refine w_nil ?_
      refine then_n ?_
      refine wc_condT rfl (fun h109 => ?_) (fun h109 => ?_)
      · cases h109
      skip
      refine wc_skip ?_
      refine out_n ?_
      refine then_n ?_
      refine wc_region ?_
      refine w_val rfl rfl (op_pure rfl) ?_
      refine w_val rfl rfl (op_add rfl rfl (by unfold In64; omega)) ?_
      refine w_val rfl rfl (op_pure rfl) ?_
      refine w_nil ?_
      exact round_n _ _ (by omega) (Sub.cons rfl (Sub.cons rfl (Sub.cons rfl (Sub.cons rfl (Sub.cons rfl (Sub.nil _)))))) ⟨k + 1, rfl, by omega, rfl, rfl⟩
    simp only [decide_eq_false_iff_not] at h79
    obtain rfl : k = p.2.length := by omega
    refine wc_exit ?_
    repeat first | refine then_x ?_ | refine round_x ?_ | refine cut_x ?_ | refine out_x' (by decide) ?_
    refine out_x ?_
    refine then_n ?_
    repeat refine wc_seq ?_
    refine wc_region ?_
    refine w_val rfl rfl (op_pure rfl) ?_
    refine w_nil ?_
    refine then_n ?_
    refine wc_block ?_
    refine wc_loop_at (fun j m z' => ∃ k : Nat, j = 30 - k ∧ k ≤ 30 ∧ m = [(0, v), (5, F), (9, .int .i64 (i : Nat)), (10, .int .i64 (p.2.length : Nat)), (12, .int .i64 (k : Nat))] ∧ z = z') 30
      [(0, v), (5, F), (9, .int .i64 (i : Nat)), (10, .int .i64 (p.2.length : Nat)), (12, .int .i64 ((0 : Nat) : Int))] (Sub.cons rfl (Sub.cons rfl (Sub.cons rfl (Sub.cons rfl (Sub.cons rfl (Sub.nil _)))))) ⟨0, by simp, by simp, rfl, rfl⟩ ?_
    rintro j1 m1 _ ⟨k, rfl, hk, rfl, rfl⟩
    repeat refine wc_seq ?_
    refine wc_region ?_
    refine w_val rfl rfl (op_pure rfl) ?_
    refine w_val rfl rfl (op_pure rfl) ?_
    refine w_nil ?_
    refine then_n ?_
    repeat refine wc_seq ?_
    refine wc_condT rfl (fun h111 => ?_) (fun h111 => ?_)
    · simp only [decide_eq_true_eq] at h111
      refine wc_skip ?_
      refine then_n ?_
      repeat refine wc_seq ?_
      refine wc_block ?_
      repeat refine wc_seq ?_
      have hwk : (fullM mkL i p.2.length ++ fullM tlL i 30)[p.2.length + k]? = some (tlL i k) := by rw [List.getElem?_append_right (by rw [fullM_len]; omega), fullM_len, Nat.add_sub_cancel_left]; exact fullM_get _ (by omega)
      refine wc_region ?_
      refine w_val rfl rfl (op_pure rfl) ?_
      refine w_val rfl rfl (op_pure rfl) ?_
      refine w_val rfl rfl (op_idxF rfl rfl (natA_cast _ _) rfl rfl rfl rfl hFz (by omega)) ?_
      refine w_val rfl rfl (op_load rfl rfl (Row.mk_pt hFz hw) rfl) ?_
      refine w_val rfl rfl (op_pure rfl) ?_
      refine w_val rfl rfl (op_pure rfl) ?_
      refine w_val rfl rfl (op_add rfl rfl (by unfold In64; omega)) ?_
      refine w_val rfl rfl (op_idxF (n := p.2.length + k) rfl rfl (natA_add _ _ _) rfl rfl rfl rfl hwr (by rw [List.length_append, fullM_len, fullM_len]; omega)) ?_
      refine w_val rfl rfl (op_load rfl rfl (Row.mk_pt hwr hwk) rfl) ?_
      refine w_val rfl rfl (op_cv (r := tlL i k) rfl rfl rfl rfl rfl (wrap64 (by unfold In64 tlL; omega))) ?_
      refine w_val rfl rfl (op_pure rfl) ?_
      refine w_val rfl rfl (op_mul rfl rfl (by unfold In64; omega)) ?_
      refine w_val rfl rfl (op_add rfl rfl (by unfold In64; omega)) ?_
      refine w_val rfl rfl (op_pure rfl) ?_
      refine w_val rfl rfl (op_add rfl rfl (by unfold In64; omega)) ?_
      refine w_val rfl rfl (op_int (v := .bool false) rfl rfl (by decide) (by simp [intA, tlL])) ?_
      refine w_nil ?_
      refine then_n ?_
      refine wc_condT rfl (fun h129 => ?_) (fun h129 => ?_)
      · cases h129
      skip
      refine wc_skip ?_
      refine out_n ?_
      refine then_n ?_
      refine wc_region ?_
      refine w_val rfl rfl (op_pure rfl) ?_
      refine w_val rfl rfl (op_add rfl rfl (by unfold In64; omega)) ?_
      refine w_val rfl rfl (op_pure rfl) ?_
      refine w_nil ?_
      exact round_n _ _ (by omega) (Sub.cons rfl (Sub.cons rfl (Sub.cons rfl (Sub.cons rfl (Sub.cons rfl (Sub.nil _)))))) ⟨k + 1, rfl, by omega, rfl, rfl⟩
    simp only [decide_eq_false_iff_not] at h111
    obtain rfl : k = 30 := by omega
    refine wc_exit ?_
    repeat first | refine then_x ?_ | refine round_x ?_ | refine cut_x ?_ | refine out_x' (by decide) ?_
    refine out_x ?_
    refine out_n ?_
    refine then_n ?_
    refine wc_region ?_
    refine w_val rfl rfl (op_pure rfl) ?_
    refine w_val rfl rfl (op_add rfl rfl (by unfold In64; omega)) ?_
    refine w_val rfl rfl (op_pure rfl) ?_
    refine w_nil ?_
    exact round_n _ _ (by omega) (Sub.cons rfl (Sub.cons rfl (Sub.cons rfl (Sub.nil _)))) ⟨i + 1, rfl, by omega, rfl, rfl⟩
  simp only [decide_eq_false_iff_not] at h69
  obtain rfl : i = data.length := by omega
  refine wc_exit ?_
  repeat first | refine then_x ?_ | refine round_x ?_ | refine cut_x ?_ | refine out_x' (by decide) ?_
  refine out_x ?_
  refine then_n ?_
  repeat refine wc_seq ?_
  refine wc_region ?_
  refine w_val rfl rfl (op_pure rfl) ?_
  refine w_nil ?_
  refine then_n ?_
  refine wc_ret ?_
  repeat first | refine then_r ?_ | refine out_r ?_ | refine round_r ?_ | refine cut_r ?_ | refine sc_r ?_
  exact ⟨_, rfl, hA.K, rfl⟩
set_option maxRecDepth 10000 in
set_option maxHeartbeats 8000000 in
/-- Lists of numbers. -/
theorem apartInts_ok {s : St} {v : AV} {data : List (AV × List Int)} (hok : s.Ok) (hv : Row s.h 1 v (data.map fun p => [p.1])) (hvX : ∀ g ∈ v.gs, g ∉ data.flatMap (·.1.gs)) (hr : ∀ p ∈ data, Row s.h 1 p.1 (p.2.map iC)) (hd : (data.map (·.1)).Pairwise Dis) (hn : ∀ p ∈ data, p.1.gs = [] → p.1 = .nils)
    (hl1 : data.length ≤ 1000000) (hl2 : ∀ p ∈ data, p.2.length ≤ 2097152) : CallS Try.prog Tt Kt 25 [v] s (fun r s' => Keep (data.flatMap (·.1.gs)) s s' ∧ r = .bool true) := by
  have hb : ∀ p ∈ data, ∀ g ∈ p.1.gs, g < s.ctr := fun p hp => (hr p hp).lt hok
  refine call_of (fn := Try.f25) (nt := 125) Try.func25 rfl rfl rfl ?_
  repeat refine wc_seq ?_
  refine wc_region ?_
  refine w_val rfl rfl (op_pure rfl) ?_
  refine w_nil ?_
  refine then_n ?_
  repeat refine wc_seq ?_
  have hK := Keep.refl hok
  have hvl : v.slen = some data.length := hv.slenF
  have hI : RowsI s.h 1 iC data (MarkG mkL 0 0) := fun q p hq => ⟨p.2, rfl, hr p (List.mem_of_getElem? hq), MarkG.zero _ _ _⟩
  have hK : Keep (data.flatMap (·.1.gs)) s s := hK.more (fun g hg => by cases hg)
  refine wc_region ?_
  refine w_val rfl rfl (op_pure rfl) ?_
  refine w_nil ?_
  refine then_n ?_
  repeat refine wc_seq ?_
  refine wc_block ?_
  refine wc_loop_at (fun j m z => ∃ i : Nat, j = data.length - i ∧ i ≤ data.length ∧ m = [(0, v), (3, .int .i64 (i : Nat))] ∧ Keep (data.flatMap (·.1.gs)) s z ∧ RowsI z.h 1 iC data (MarkG mkL i 0)) data.length
    [(0, v), (3, .int .i64 ((0 : Nat) : Int))] (Sub.cons rfl (Sub.cons rfl (Sub.nil _))) ⟨0, by simp, by simp, rfl, hK, hI⟩ ?_
  clear hK hI
  rintro j m z ⟨i, rfl, hi, rfl, hK, hI⟩
  have hvz := hv.keep hK hvX
  repeat refine wc_seq ?_
  refine wc_region ?_
  refine w_val rfl rfl (op_pure rfl) ?_
  refine w_val rfl rfl (op_pure rfl) ?_
  refine w_val rfl rfl (op_len rfl rfl rfl rfl rfl (by assumption)) ?_
  refine w_val rfl rfl (op_pure rfl) ?_
  refine w_nil ?_
  refine then_n ?_
  repeat refine wc_seq ?_
  refine wc_condT rfl (fun h16 => ?_) (fun h16 => ?_)
  · simp only [decide_eq_true_eq] at h16
    refine wc_skip ?_
    refine then_n ?_
    repeat refine wc_seq ?_
    refine wc_block ?_
    repeat refine wc_seq ?_
    obtain ⟨p, hp⟩ : ∃ x, data[i]? = some x := ⟨_, List.getElem?_eq_getElem (by omega)⟩
    have hpm := List.mem_of_getElem? hp
    have hpl := hl2 p hpm
    refine wc_region ?_
    refine w_val rfl rfl (op_pure rfl) ?_
    refine w_nil ?_
    refine then_n ?_
    refine wc_block ?_
    refine wc_loop_at (fun j m z => ∃ k : Nat, j = p.2.length - k ∧ k ≤ p.2.length ∧ m = [(0, v), (3, .int .i64 (i : Nat)), (4, .int .i64 (k : Nat))] ∧ Keep (data.flatMap (·.1.gs)) s z ∧ RowsI z.h 1 iC data (MarkG mkL i k)) p.2.length
      [(0, v), (3, .int .i64 (i : Nat)), (4, .int .i64 ((0 : Nat) : Int))] (Sub.cons rfl (Sub.cons rfl (Sub.cons rfl (Sub.nil _)))) ⟨0, by simp, by simp, rfl, hK, hI⟩ ?_
    clear hK hI hvz
    rintro j1 m1 z ⟨k, rfl, hk, rfl, hK, hI⟩
    have hvz := hv.keep hK hvX
    obtain ⟨xs, hxl, hxr, hxG⟩ := hI i p hp
    have hxs : p.1.slen = some p.2.length := hxr.slenF.trans (congrArg some hxl)
    repeat refine wc_seq ?_
    refine wc_region ?_
    refine w_val rfl rfl (op_pure rfl) ?_
    refine w_val rfl rfl (op_pure rfl) ?_
    refine w_val rfl rfl (op_pure rfl) ?_
    refine w_val rfl rfl (op_idxF rfl rfl (natA_cast _ _) rfl rfl rfl rfl (by assumption) (by omega)) ?_
    refine w_val rfl rfl (op_load rfl rfl (Row.mk_pt hvz hp) rfl) ?_
    refine w_val rfl rfl (op_len rfl rfl rfl rfl rfl (by assumption)) ?_
    refine w_val rfl rfl (op_pure rfl) ?_
    refine w_nil ?_
    refine then_n ?_
    repeat refine wc_seq ?_
    refine wc_condT rfl (fun h25 => ?_) (fun h25 => ?_)
    · simp only [decide_eq_true_eq] at h25
      refine wc_skip ?_
      refine then_n ?_
      repeat refine wc_seq ?_
      refine wc_block ?_
      refine wc_region ?_
      refine w_val rfl rfl (op_pure rfl) ?_
      refine w_val rfl rfl (op_pure rfl) ?_
      refine w_val rfl rfl (op_idxF rfl rfl (natA_cast _ _) rfl rfl rfl rfl (by assumption) (by omega)) ?_
      refine w_val rfl rfl (op_load rfl rfl (Row.mk_pt hvz hp) rfl) ?_
      refine w_val rfl rfl (op_pure rfl) ?_
      refine w_val rfl rfl (op_pure rfl) ?_
      refine w_val rfl rfl (op_mul rfl rfl (by unfold In64; omega)) ?_
      refine w_val rfl rfl (op_pure rfl) ?_
      refine w_val rfl rfl (op_add rfl rfl (by unfold In64; omega)) ?_
      refine w_val rfl rfl (op_idxF rfl rfl (natA_cast _ _) rfl rfl rfl rfl hxr (by omega)) ?_
      refine w_store_row rfl rfl rfl rfl rfl rfl rfl hK.ok hxr (fun e => by have := hn p hpm e; rw [this] at hxr; have h0 := congrArg List.length (show xs.map iC = [] from hxr); rw [List.length_map, List.length_nil] at h0; omega) (by rw [List.length_map]; omega) ?_
      intro zz hx2 hk2 hc2
      have hI := hI.upd hd hp hk2 (xs := xs.set k (mkL i k)) (G' := MarkG mkL i (k + 1)) (by rw [List.map_set]; exact hx2) (by rw [List.length_set]; exact hxl) (hxG.step (by omega)) (fun q xs hq h => h.other hq)
      have hK := hK.trans hk2 (fun g hg => .inl (List.mem_flatMap.2 ⟨p, hpm, hg⟩))
      clear hx2 hk2 hc2 hxr hxG
      refine w_nil ?_
      refine out_n ?_
      refine then_n ?_
      refine wc_region ?_
      refine w_val rfl rfl (op_pure rfl) ?_
      refine w_val rfl rfl (op_add rfl rfl (by unfold In64; omega)) ?_
      refine w_val rfl rfl (op_pure rfl) ?_
      refine w_nil ?_
      exact round_n _ _ (by omega) (Sub.cons rfl (Sub.cons rfl (Sub.cons rfl (Sub.nil _)))) ⟨k + 1, rfl, by omega, rfl, hK, hI⟩
    simp only [decide_eq_false_iff_not] at h25
    obtain rfl : k = p.2.length := by omega
    replace hI := hI.mono (G' := MarkG mkL (i + 1) 0) (fun q p' xs hq hx h => h.next fun e => by subst e; rw [hp] at hq; cases hq; omega)
    clear hxr hxG hxs
    refine wc_exit ?_
    repeat first | refine then_x ?_ | refine round_x ?_ | refine cut_x ?_ | refine out_x' (by decide) ?_
    refine out_x ?_
    refine out_n ?_
    refine then_n ?_
    refine wc_region ?_
    refine w_val rfl rfl (op_pure rfl) ?_
    refine w_val rfl rfl (op_add rfl rfl (by unfold In64; omega)) ?_
    refine w_val rfl rfl (op_pure rfl) ?_
    refine w_nil ?_
    exact round_n _ _ (by omega) (Sub.cons rfl (Sub.cons rfl (Sub.nil _))) ⟨i + 1, rfl, by omega, rfl, hK, hI⟩
  simp only [decide_eq_false_iff_not] at h16
  obtain rfl : i = data.length := by omega
  refine wc_exit ?_
  repeat first | refine then_x ?_ | refine round_x ?_ | refine cut_x ?_ | refine out_x' (by decide) ?_
  refine out_x ?_
  refine then_n ?_
  repeat refine wc_seq ?_
  have hcut := hK.ctr
  have hA : Ap2 s 1 iC data mkL tlL 0 z.ctr [] .nils z := ⟨hK, hI.mono fun q p xs hq _ h => h.1 (List.getElem?_eq_some_iff.1 hq).1, rfl, fun j w p h => (by simp at h), rfl, fun g hg => (by cases hg), fun _ => rfl, fun j w h => (by simp at h), ⟨hcut, Nat.le_refl _⟩⟩
  clear hI hK hvz
  refine wc_region ?_
  refine w_val rfl rfl (op_pure rfl) ?_
  refine w_nil ?_
  refine then_n ?_
  repeat refine wc_seq ?_
  refine wc_region ?_
  refine w_val rfl rfl (op_pure rfl) ?_
  refine w_nil ?_
  refine then_n ?_
  repeat refine wc_seq ?_
  refine wc_block ?_
  refine wc_loop_at (fun j m z => ∃ (i cut : Nat) (ms : List AV) (F : AV), j = data.length - i ∧ i ≤ data.length ∧ m = [(0, v), (5, F), (6, .int .i64 (i : Nat))] ∧ Ap2 s 1 iC data mkL tlL i cut ms F z) data.length
    [(0, v), (5, .nils), (6, .int .i64 ((0 : Nat) : Int))] (Sub.cons rfl (Sub.cons rfl (Sub.cons rfl (Sub.nil _)))) ⟨0, _, _, _, by simp, by simp, rfl, hA⟩ ?_
  clear hA hcut
  rintro j m z ⟨i, cut, ms, F, rfl, hi, rfl, hA⟩
  have hvz := hv.keep hA.K hvX
  have hcut := hA.cutb
  repeat refine wc_seq ?_
  refine wc_region ?_
  refine w_val rfl rfl (op_pure rfl) ?_
  refine w_val rfl rfl (op_pure rfl) ?_
  refine w_val rfl rfl (op_len rfl rfl rfl rfl rfl (by assumption)) ?_
  refine w_val rfl rfl (op_pure rfl) ?_
  refine w_nil ?_
  refine then_n ?_
  repeat refine wc_seq ?_
  refine wc_condT rfl (fun h41 => ?_) (fun h41 => ?_)
  · simp only [decide_eq_true_eq] at h41
    refine wc_skip ?_
    refine then_n ?_
    repeat refine wc_seq ?_
    refine wc_block ?_
    repeat refine wc_seq ?_
    obtain ⟨p, hp⟩ : ∃ x, data[i]? = some x := ⟨_, List.getElem?_eq_getElem (by omega)⟩
    have hpm := List.mem_of_getElem? hp
    have hpl := hl2 p hpm
    obtain ⟨xs, hxl, hxr, hxG⟩ := hA.old i p hp
    unfold FullG at hxG
    rw [hxl] at hxG
    rw [hxG] at hxr
    clear hxG hxl
    refine wc_region ?_
    refine w_val rfl rfl (op_pure rfl) ?_
    refine w_val rfl rfl (op_pure rfl) ?_
    refine w_val rfl rfl (op_idxF rfl rfl (natA_cast _ _) rfl rfl rfl rfl (by assumption) (by omega)) ?_
    refine w_val rfl rfl (op_load rfl rfl (Row.mk_pt hvz hp) rfl) ?_
    refine w_val rfl rfl (op_pure rfl) ?_
    refine w_nil ?_
    refine then_n ?_
    repeat refine wc_seq ?_
    refine wc_region ?_
    refine w_val rfl rfl (op_pure rfl) ?_
    refine w_nil ?_
    refine then_n ?_
    repeat refine wc_seq ?_
    refine wc_block ?_
    refine wc_loop_at (fun j m z => ∃ (k : Nat) (l : AV), j = 30 - k ∧ k ≤ 30 ∧ m = [(0, v), (5, F), (6, .int .i64 (i : Nat)), (7, l), (8, .int .i64 (k : Nat))] ∧ Ap2 s 1 iC data mkL tlL i cut ms F z ∧ Row z.h 1 p.1 ((fullM mkL i p.2.length).map iC) ∧ Row z.h 1 l ((fullM mkL i p.2.length ++ fullM tlL i k).map iC) ∧
        (∀ g ∈ l.gs, g ∈ p.1.gs ∨ cut ≤ g) ∧ (l.gs = [] → l = .nils) ∧ (∀ g ∈ p.1.gs, g ∈ l.gs → finA z.h p.1 ≤ finA z.h l)) 30
      [(0, v), (5, F), (6, .int .i64 (i : Nat)), (7, p.1), (8, .int .i64 ((0 : Nat) : Int))] (Sub.cons rfl (Sub.cons rfl (Sub.cons rfl (Sub.cons rfl (Sub.cons rfl (Sub.nil _)))))) ⟨0, p.1, by simp, by simp, rfl, hA, hxr, by simpa [fullM] using hxr, fun g hg => .inl hg, hn p hpm, fun g _ _ => Nat.le_refl _⟩ ?_
    clear hA hxr hvz
    rintro j1 m1 z ⟨k, l, rfl, hk, rfl, hA, hxr, hl, hlb, hln, hlf⟩
    have hcut := hA.cutb
    repeat refine wc_seq ?_
    refine wc_region ?_
    refine w_val rfl rfl (op_pure rfl) ?_
    refine w_val rfl rfl (op_pure rfl) ?_
    refine w_nil ?_
    refine then_n ?_
    repeat refine wc_seq ?_
    refine wc_condT rfl (fun h49 => ?_) (fun h49 => ?_)
    · simp only [decide_eq_true_eq] at h49
      refine wc_skip ?_
      refine then_n ?_
      repeat refine wc_seq ?_
      refine wc_block ?_
      refine wc_region ?_
      refine w_val rfl rfl (op_pure rfl) ?_
      refine w_val rfl rfl (op_pure rfl) ?_
      refine w_val rfl rfl (op_mul rfl rfl (by unfold In64; omega)) ?_
      refine w_val rfl rfl (op_add rfl rfl (by unfold In64; omega)) ?_
      refine w_val rfl rfl (op_pure rfl) ?_
      refine w_val rfl rfl (op_add rfl rfl (by unfold In64; omega)) ?_
      refine w_lit1 (c := [.int .i64 (500000 + 1000 * (i : Int) + (k : Nat))]) rfl rfl rfl rfl rfl rfl rfl (by decide) (by decide) rfl rfl rfl hA.K.ok ?_
      rintro b z1 hb1 hk1 hc1 hg1
      have hA := hA.grow hd hb hp hk1 (fun g hg => by cases hg) (fun xs h => h.keep0 hk1)
      have hfp : finA z1.h p.1 = finA z.h p.1 := finA_keep hxr hk1 (fun g _ h => by cases h)
      have hfl : finA z1.h l = finA z.h l := finA_keep hl hk1 (fun g _ h => by cases h)
      rw [← hfp, ← hfl] at hlf
      have hxr := hxr.keep0 hk1
      have hl := hl.keep0 hk1
      have hcz : cut ≤ z1.ctr := by have := hA.cutb; omega
      clear hfp hfl hk1 hc1 hg1
      refine w_appendK (sz := 1) (ns := [tlL i k].map iC) rfl rfl rfl rfl rfl rfl rfl rfl rfl rfl (by decide) hA.K.ok hl hln hb1 (by simp only [List.length_map, List.length_append, List.length_cons, List.length_nil, fullM_len, maxBytes]; omega) (by simp only [List.length_map, List.length_append, List.length_cons, List.length_nil, fullM_len, maxBytes]; omega) ?_
      rintro l2 z2 hl2' hk2 hc2 hg2 hn2 - hap
      rw [← List.map_append, List.append_assoc, show fullM tlL i k ++ [tlL i k] = fullM tlL i (k + 1) by simp [fullM, List.range_succ]] at hl2'
      have hlt := hxr.lt hA.K.ok
      obtain ⟨hx2, hfx⟩ := hap.rows hxr hlf
      have hlf2 : ∀ g ∈ p.1.gs, g ∈ l2.gs → finA z2.h p.1 ≤ finA z2.h l2 := fun g h1 h2 => by
        rcases hg2 with e | e
        · rw [e] at h2
          rw [hfx, hap.fin e (fun e0 => by rw [e0] at h2; cases h2)]
          exact Nat.le_trans (hlf g h1 h2) (Nat.le_add_right _ _)
        · rw [e] at h2; have := hlt g h1; rw [List.mem_singleton.1 h2] at this; omega
      have hlb2 : ∀ g ∈ l2.gs, g ∈ p.1.gs ∨ cut ≤ g := fun g h => by
        rcases hg2 with e | e
        · rw [e] at h; exact hlb g h
        · rw [e] at h; rw [List.mem_singleton.1 h]; exact .inr hcz
      have hA := hA.grow hd hb hp hk2 hlb (fun xs h => (hap.rows h hlf).1)
      clear hap hfx hxr hl hb1
      refine w_val rfl rfl (op_pure rfl) ?_
      refine w_nil ?_
      refine out_n ?_
      refine then_n ?_
      refine wc_region ?_
      refine w_val rfl rfl (op_pure rfl) ?_
      refine w_val rfl rfl (op_add rfl rfl (by unfold In64; omega)) ?_
      refine w_val rfl rfl (op_pure rfl) ?_
      refine w_nil ?_
      exact round_n _ _ (by omega) (Sub.cons rfl (Sub.cons rfl (Sub.cons rfl (Sub.cons rfl (Sub.cons rfl (Sub.nil _)))))) ⟨k + 1, l2, rfl, by omega, rfl, hA, hx2, hl2', hlb2, hn2, hlf2⟩
    simp only [decide_eq_false_iff_not] at h49
    obtain rfl : k = 30 := by omega
    refine wc_exit ?_
    repeat first | refine then_x ?_ | refine round_x ?_ | refine cut_x ?_ | refine out_x' (by decide) ?_
    refine out_x ?_
    refine then_n ?_
    refine wc_region ?_
    refine w_val rfl rfl (op_pure rfl) ?_
    refine w_val rfl rfl (op_pure rfl) ?_
    refine w_lit1 (c := [l]) rfl rfl rfl rfl rfl rfl rfl (by decide) (by decide) (fillS1 hl.leaf) (by simp only [List.all_cons, List.all_nil, hl.leaf]; rfl) rfl hA.K.ok ?_
    rintro b z1 hb1 hk1 hc1 -
    have hA := hA.grow hd hb hp hk1 (fun g hg => by cases hg) (fun xs h => h.keep0 hk1)
    have hl := hl.keep0 hk1
    clear hk1 hc1
    refine w_append rfl rfl rfl rfl rfl rfl rfl rfl rfl (by decide) hA.K.ok hA.rF hA.Fn hb1 (by rw [List.length_map, hA.len]; simp only [List.length_cons, List.length_nil, maxBytes]; omega) (by rw [List.length_map, hA.len]; simp only [List.length_cons, List.length_nil, maxBytes]; omega) ?_
    rintro F2 z2 hF2 hk2 - hg2 hn2 -
    have hA := hA.push hb hp hl hlb hF2 hk2 hg2 hn2
    refine w_val rfl rfl (op_pure rfl) ?_
    refine w_nil ?_
    refine out_n ?_
    refine then_n ?_
    refine wc_region ?_
    refine w_val rfl rfl (op_pure rfl) ?_
    refine w_val rfl rfl (op_add rfl rfl (by unfold In64; omega)) ?_
    refine w_val rfl rfl (op_pure rfl) ?_
    refine w_nil ?_
    exact round_n _ _ (by omega) (Sub.cons rfl (Sub.cons rfl (Sub.cons rfl (Sub.nil _)))) ⟨i + 1, _, _, F2, rfl, by omega, rfl, hA⟩
  simp only [decide_eq_false_iff_not] at h41
  obtain rfl : i = data.length := by omega
  refine wc_exit ?_
  repeat first | refine then_x ?_ | refine round_x ?_ | refine cut_x ?_ | refine out_x' (by decide) ?_
  refine out_x ?_
  refine then_n ?_
  repeat refine wc_seq ?_
  have hFz := hA.rF
  have hml := hA.len
  refine wc_region ?_
  refine w_val rfl rfl (op_pure rfl) ?_
  refine w_nil ?_
  refine then_n ?_
  repeat refine wc_seq ?_
  refine wc_block ?_
  refine wc_loop_at (fun j m z' => ∃ i : Nat, j = data.length - i ∧ i ≤ data.length ∧ m = [(0, v), (5, F), (9, .int .i64 (i : Nat))] ∧ z = z') data.length
    [(0, v), (5, F), (9, .int .i64 ((0 : Nat) : Int))] (Sub.cons rfl (Sub.cons rfl (Sub.cons rfl (Sub.nil _)))) ⟨0, by simp, by simp, rfl, rfl⟩ ?_
  rintro j m _ ⟨i, rfl, hi, rfl, rfl⟩
  repeat refine wc_seq ?_
  refine wc_region ?_
  refine w_val rfl rfl (op_pure rfl) ?_
  refine w_val rfl rfl (op_pure rfl) ?_
  refine w_val rfl rfl (op_len rfl rfl rfl rfl rfl (by assumption)) ?_
  refine w_val rfl rfl (op_pure rfl) ?_
  refine w_nil ?_
  refine then_n ?_
  repeat refine wc_seq ?_
  refine wc_condT rfl (fun h67 => ?_) (fun h67 => ?_)
  · simp only [decide_eq_true_eq] at h67
    refine wc_skip ?_
    refine then_n ?_
    repeat refine wc_seq ?_
    refine wc_block ?_
    repeat refine wc_seq ?_
    obtain ⟨p, hp⟩ : ∃ x, data[i]? = some x := ⟨_, List.getElem?_eq_getElem (by omega)⟩
    have hpm := List.mem_of_getElem? hp
    have hpl := hl2 p hpm
    obtain ⟨xs, hxl, hxr, hxG⟩ := hA.old i p hp
    unfold FullG at hxG
    rw [hxl] at hxG
    rw [hxG] at hxr
    clear hxG hxl
    have hxs : p.1.slen = some p.2.length := hxr.slenF.trans (by rw [fullM_len])
    obtain ⟨w, hw⟩ : ∃ x, ms[i]? = some x := ⟨_, List.getElem?_eq_getElem (by omega)⟩
    obtain ⟨hwr, -⟩ := hA.new i w p hw hp
    refine wc_region ?_
    refine w_val rfl rfl (op_pure rfl) ?_
    refine w_val rfl rfl (op_pure rfl) ?_
    refine w_val rfl rfl (op_idxF rfl rfl (natA_cast _ _) rfl rfl rfl rfl (by assumption) (by omega)) ?_
    refine w_val rfl rfl (op_load rfl rfl (Row.mk_pt hvz hp) rfl) ?_
    refine w_val rfl rfl (op_len rfl rfl rfl rfl rfl (by assumption)) ?_
    refine w_val rfl rfl (op_pure rfl) ?_
    refine w_nil ?_
    refine then_n ?_
    repeat refine wc_seq ?_
    refine wc_region ?_
    refine w_val rfl rfl (op_pure rfl) ?_
    refine w_nil ?_
    refine then_n ?_
    repeat refine wc_seq ?_
    refine wc_block ?_
    refine wc_loop_at (fun j m z' => ∃ k : Nat, j = p.2.length - k ∧ k ≤ p.2.length ∧ m = [(0, v), (5, F), (9, .int .i64 (i : Nat)), (10, .int .i64 (p.2.length : Nat)), (11, .int .i64 (k : Nat))] ∧ z = z') p.2.length
      [(0, v), (5, F), (9, .int .i64 (i : Nat)), (10, .int .i64 (p.2.length : Nat)), (11, .int .i64 ((0 : Nat) : Int))] (Sub.cons rfl (Sub.cons rfl (Sub.cons rfl (Sub.cons rfl (Sub.cons rfl (Sub.nil _)))))) ⟨0, by simp, by simp, rfl, rfl⟩ ?_
    rintro j1 m1 _ ⟨k, rfl, hk, rfl, rfl⟩
    repeat refine wc_seq ?_
    refine wc_region ?_
    refine w_val rfl rfl (op_pure rfl) ?_
    refine w_val rfl rfl (op_pure rfl) ?_
    refine w_val rfl rfl (op_pure rfl) ?_
    refine w_nil ?_
    refine then_n ?_
    repeat refine wc_seq ?_
    refine wc_condT rfl (fun h77 => ?_) (fun h77 => ?_)
    · simp only [decide_eq_true_eq] at h77
      refine wc_skip ?_
      refine then_n ?_
      repeat refine wc_seq ?_
      refine wc_block ?_
      repeat refine wc_seq ?_
      have hxk : (fullM mkL i p.2.length)[k]? = some (mkL i k) := fullM_get _ (by omega)
      have hwk : (fullM mkL i p.2.length ++ fullM tlL i 30)[k]? = some (mkL i k) := by rw [List.getElem?_append_left (by rw [fullM_len]; omega)]; exact hxk
      refine wc_region ?_
      refine w_val rfl rfl (op_pure rfl) ?_
      refine w_val rfl rfl (op_pure rfl) ?_
      refine w_val rfl rfl (op_idxF rfl rfl (natA_cast _ _) rfl rfl rfl rfl (by assumption) (by omega)) ?_
      refine w_val rfl rfl (op_load rfl rfl (Row.mk_pt hvz hp) rfl) ?_
      refine w_val rfl rfl (op_pure rfl) ?_
      refine w_val rfl rfl (op_idxF rfl rfl (natA_cast _ _) rfl rfl rfl rfl hxr (by rw [fullM_len]; omega)) ?_
      refine w_val rfl rfl (op_load rfl rfl (Row.mk_pt hxr hxk) rfl) ?_
      refine w_val rfl rfl (op_pure rfl) ?_
      refine w_val rfl rfl (op_mul rfl rfl (by unfold In64; omega)) ?_
      refine w_val rfl rfl (op_pure rfl) ?_
      refine w_val rfl rfl (op_add rfl rfl (by unfold In64; omega)) ?_
      refine w_val rfl rfl (op_int (v := .bool false) rfl rfl (by decide) (by simp [intA, mkL])) ?_
      refine w_val rfl rfl (op_pure rfl) ?_
      refine w_split (i := 92) rfl (fun h92 => ?_) (fun h92 => ?_)
      · cases h92
      skip
      refine w_val rfl rfl (op_pure rfl) ?_
      refine w_val rfl rfl (op_pure rfl) ?_
      refine w_val rfl rfl (op_idxF rfl rfl (natA_cast _ _) rfl rfl rfl rfl hFz (by omega)) ?_
      refine w_val rfl rfl (op_load rfl rfl (Row.mk_pt hFz hw) rfl) ?_
      refine w_val rfl rfl (op_pure rfl) ?_
      refine w_val rfl rfl (op_idxF rfl rfl (natA_cast _ _) rfl rfl rfl rfl hwr (by rw [List.length_append, fullM_len, fullM_len]; omega)) ?_
      refine w_val rfl rfl (op_load rfl rfl (Row.mk_pt hwr hwk) rfl) ?_
      refine w_val rfl rfl (op_pure rfl) ?_
      refine w_val rfl rfl (op_mul rfl rfl (by unfold In64; omega)) ?_
      refine w_val rfl rfl (op_pure rfl) ?_
      refine w_val rfl rfl (op_add rfl rfl (by unfold In64; omega)) ?_
      refine w_val rfl rfl (op_int (v := .bool false) rfl rfl (by decide) (by simp [intA, mkL])) ?_
      refine w_val rfl rfl (op_pure rfl) ?_
      refine w_nil ?_
      refine then_n ?_
      refine wc_condT rfl (fun h105 => ?_) (fun h105 => ?_)
      · cases h105
      skip
      refine wc_skip ?_
      refine out_n ?_
      refine then_n ?_
      refine wc_region ?_
      refine w_val rfl rfl (op_pure rfl) ?_
      refine w_val rfl rfl (op_add rfl rfl (by unfold In64; omega)) ?_
      refine w_val rfl rfl (op_pure rfl) ?_
      refine w_nil ?_
      exact round_n _ _ (by omega) (Sub.cons rfl (Sub.cons rfl (Sub.cons rfl (Sub.cons rfl (Sub.cons rfl (Sub.nil _)))))) ⟨k + 1, rfl, by omega, rfl, rfl⟩
    simp only [decide_eq_false_iff_not] at h77
    obtain rfl : k = p.2.length := by omega
    refine wc_exit ?_
    repeat first | refine then_x ?_ | refine round_x ?_ | refine cut_x ?_ | refine out_x' (by decide) ?_
    refine out_x ?_
    refine then_n ?_
    repeat refine wc_seq ?_
    refine wc_region ?_
    refine w_val rfl rfl (op_pure rfl) ?_
    refine w_nil ?_
    refine then_n ?_
    refine wc_block ?_
    refine wc_loop_at (fun j m z' => ∃ k : Nat, j = 30 - k ∧ k ≤ 30 ∧ m = [(0, v), (5, F), (9, .int .i64 (i : Nat)), (10, .int .i64 (p.2.length : Nat)), (12, .int .i64 (k : Nat))] ∧ z = z') 30
      [(0, v), (5, F), (9, .int .i64 (i : Nat)), (10, .int .i64 (p.2.length : Nat)), (12, .int .i64 ((0 : Nat) : Int))] (Sub.cons rfl (Sub.cons rfl (Sub.cons rfl (Sub.cons rfl (Sub.cons rfl (Sub.nil _)))))) ⟨0, by simp, by simp, rfl, rfl⟩ ?_
    rintro j1 m1 _ ⟨k, rfl, hk, rfl, rfl⟩
    repeat refine wc_seq ?_
    refine wc_region ?_
    refine w_val rfl rfl (op_pure rfl) ?_
    refine w_val rfl rfl (op_pure rfl) ?_
    refine w_nil ?_
    refine then_n ?_
    repeat refine wc_seq ?_
    refine wc_condT rfl (fun h107 => ?_) (fun h107 => ?_)
    · simp only [decide_eq_true_eq] at h107
      refine wc_skip ?_
      refine then_n ?_
      repeat refine wc_seq ?_
      refine wc_block ?_
      repeat refine wc_seq ?_
      have hwk : (fullM mkL i p.2.length ++ fullM tlL i 30)[p.2.length + k]? = some (tlL i k) := by rw [List.getElem?_append_right (by rw [fullM_len]; omega), fullM_len, Nat.add_sub_cancel_left]; exact fullM_get _ (by omega)
      refine wc_region ?_
      refine w_val rfl rfl (op_pure rfl) ?_
      refine w_val rfl rfl (op_pure rfl) ?_
      refine w_val rfl rfl (op_idxF rfl rfl (natA_cast _ _) rfl rfl rfl rfl hFz (by omega)) ?_
      refine w_val rfl rfl (op_load rfl rfl (Row.mk_pt hFz hw) rfl) ?_
      refine w_val rfl rfl (op_pure rfl) ?_
      refine w_val rfl rfl (op_pure rfl) ?_
      refine w_val rfl rfl (op_add rfl rfl (by unfold In64; omega)) ?_
      refine w_val rfl rfl (op_idxF (n := p.2.length + k) rfl rfl (natA_add _ _ _) rfl rfl rfl rfl hwr (by rw [List.length_append, fullM_len, fullM_len]; omega)) ?_
      refine w_val rfl rfl (op_load rfl rfl (Row.mk_pt hwr hwk) rfl) ?_
      refine w_val rfl rfl (op_pure rfl) ?_
      refine w_val rfl rfl (op_mul rfl rfl (by unfold In64; omega)) ?_
      refine w_val rfl rfl (op_add rfl rfl (by unfold In64; omega)) ?_
      refine w_val rfl rfl (op_pure rfl) ?_
      refine w_val rfl rfl (op_add rfl rfl (by unfold In64; omega)) ?_
      refine w_val rfl rfl (op_int (v := .bool false) rfl rfl (by decide) (by simp [intA, tlL])) ?_
      refine w_nil ?_
      refine then_n ?_
      refine wc_condT rfl (fun h124 => ?_) (fun h124 => ?_)
      · cases h124
      skip
      refine wc_skip ?_
      refine out_n ?_
      refine then_n ?_
      refine wc_region ?_
      refine w_val rfl rfl (op_pure rfl) ?_
      refine w_val rfl rfl (op_add rfl rfl (by unfold In64; omega)) ?_
      refine w_val rfl rfl (op_pure rfl) ?_
      refine w_nil ?_
      exact round_n _ _ (by omega) (Sub.cons rfl (Sub.cons rfl (Sub.cons rfl (Sub.cons rfl (Sub.cons rfl (Sub.nil _)))))) ⟨k + 1, rfl, by omega, rfl, rfl⟩
    simp only [decide_eq_false_iff_not] at h107
    obtain rfl : k = 30 := by omega
    refine wc_exit ?_
    repeat first | refine then_x ?_ | refine round_x ?_ | refine cut_x ?_ | refine out_x' (by decide) ?_
    refine out_x ?_
    refine out_n ?_
    refine then_n ?_
    refine wc_region ?_
    refine w_val rfl rfl (op_pure rfl) ?_
    refine w_val rfl rfl (op_add rfl rfl (by unfold In64; omega)) ?_
    refine w_val rfl rfl (op_pure rfl) ?_
    refine w_nil ?_
    exact round_n _ _ (by omega) (Sub.cons rfl (Sub.cons rfl (Sub.cons rfl (Sub.nil _)))) ⟨i + 1, rfl, by omega, rfl, rfl⟩
  simp only [decide_eq_false_iff_not] at h67
  obtain rfl : i = data.length := by omega
  refine wc_exit ?_
  repeat first | refine then_x ?_ | refine round_x ?_ | refine cut_x ?_ | refine out_x' (by decide) ?_
  refine out_x ?_
  refine then_n ?_
  repeat refine wc_seq ?_
  refine wc_region ?_
  refine w_val rfl rfl (op_pure rfl) ?_
  refine w_nil ?_
  refine then_n ?_
  refine wc_ret ?_
  repeat first | refine then_r ?_ | refine out_r ?_ | refine round_r ?_ | refine cut_r ?_ | refine sc_r ?_
  exact ⟨_, rfl, hA.K, rfl⟩
set_option maxRecDepth 10000 in
set_option maxHeartbeats 8000000 in
/-- Lists of instructions. -/
theorem apartCode_ok {s : St} {v : AV} {data : List (AV × List InstrL)} (hok : s.Ok) (hv : Row s.h 1 v (data.map fun p => [p.1])) (hvX : ∀ g ∈ v.gs, g ∉ data.flatMap (·.1.gs)) (hr : ∀ p ∈ data, Row s.h 2 p.1 (p.2.map inC)) (hd : (data.map (·.1)).Pairwise Dis) (hn : ∀ p ∈ data, p.1.gs = [] → p.1 = .nils)
    (hl1 : data.length ≤ 1000000) (hl2 : ∀ p ∈ data, p.2.length ≤ 2097152) : CallS Try.prog Tt Kt 24 [v] s (fun r s' => Keep (data.flatMap (·.1.gs)) s s' ∧ r = .bool true) := by
  have hb : ∀ p ∈ data, ∀ g ∈ p.1.gs, g < s.ctr := fun p hp => (hr p hp).lt hok
  refine call_of (fn := Try.f24) (nt := 130) Try.func24 rfl rfl rfl ?_
  repeat refine wc_seq ?_
  refine wc_region ?_
  refine w_val rfl rfl (op_pure rfl) ?_
  refine w_nil ?_
  refine then_n ?_
  repeat refine wc_seq ?_
  have hK := Keep.refl hok
  have hvl : v.slen = some data.length := hv.slenF
  have hI : RowsI s.h 2 inC data (MarkG mkI 0 0) := fun q p hq => ⟨p.2, rfl, hr p (List.mem_of_getElem? hq), MarkG.zero _ _ _⟩
  have hK : Keep (data.flatMap (·.1.gs)) s s := hK.more (fun g hg => by cases hg)
  refine wc_region ?_
  refine w_val rfl rfl (op_pure rfl) ?_
  refine w_nil ?_
  refine then_n ?_
  repeat refine wc_seq ?_
  refine wc_block ?_
  refine wc_loop_at (fun j m z => ∃ i : Nat, j = data.length - i ∧ i ≤ data.length ∧ m = [(0, v), (3, .int .i64 (i : Nat))] ∧ Keep (data.flatMap (·.1.gs)) s z ∧ RowsI z.h 2 inC data (MarkG mkI i 0)) data.length
    [(0, v), (3, .int .i64 ((0 : Nat) : Int))] (Sub.cons rfl (Sub.cons rfl (Sub.nil _))) ⟨0, by simp, by simp, rfl, hK, hI⟩ ?_
  clear hK hI
  rintro j m z ⟨i, rfl, hi, rfl, hK, hI⟩
  have hvz := hv.keep hK hvX
  repeat refine wc_seq ?_
  refine wc_region ?_
  refine w_val rfl rfl (op_pure rfl) ?_
  refine w_val rfl rfl (op_pure rfl) ?_
  refine w_val rfl rfl (op_len rfl rfl rfl rfl rfl (by assumption)) ?_
  refine w_val rfl rfl (op_pure rfl) ?_
  refine w_nil ?_
  refine then_n ?_
  repeat refine wc_seq ?_
  refine wc_condT rfl (fun h16 => ?_) (fun h16 => ?_)
  · simp only [decide_eq_true_eq] at h16
    refine wc_skip ?_
    refine then_n ?_
    repeat refine wc_seq ?_
    refine wc_block ?_
    repeat refine wc_seq ?_
    obtain ⟨p, hp⟩ : ∃ x, data[i]? = some x := ⟨_, List.getElem?_eq_getElem (by omega)⟩
    have hpm := List.mem_of_getElem? hp
    have hpl := hl2 p hpm
    refine wc_region ?_
    refine w_val rfl rfl (op_pure rfl) ?_
    refine w_nil ?_
    refine then_n ?_
    refine wc_block ?_
    refine wc_loop_at (fun j m z => ∃ k : Nat, j = p.2.length - k ∧ k ≤ p.2.length ∧ m = [(0, v), (3, .int .i64 (i : Nat)), (4, .int .i64 (k : Nat))] ∧ Keep (data.flatMap (·.1.gs)) s z ∧ RowsI z.h 2 inC data (MarkG mkI i k)) p.2.length
      [(0, v), (3, .int .i64 (i : Nat)), (4, .int .i64 ((0 : Nat) : Int))] (Sub.cons rfl (Sub.cons rfl (Sub.cons rfl (Sub.nil _)))) ⟨0, by simp, by simp, rfl, hK, hI⟩ ?_
    clear hK hI hvz
    rintro j1 m1 z ⟨k, rfl, hk, rfl, hK, hI⟩
    have hvz := hv.keep hK hvX
    obtain ⟨xs, hxl, hxr, hxG⟩ := hI i p hp
    have hxs : p.1.slen = some p.2.length := hxr.slenF.trans (congrArg some hxl)
    repeat refine wc_seq ?_
    refine wc_region ?_
    refine w_val rfl rfl (op_pure rfl) ?_
    refine w_val rfl rfl (op_pure rfl) ?_
    refine w_val rfl rfl (op_pure rfl) ?_
    refine w_val rfl rfl (op_idxF rfl rfl (natA_cast _ _) rfl rfl rfl rfl (by assumption) (by omega)) ?_
    refine w_val rfl rfl (op_load rfl rfl (Row.mk_pt hvz hp) rfl) ?_
    refine w_val rfl rfl (op_len rfl rfl rfl rfl rfl (by assumption)) ?_
    refine w_val rfl rfl (op_pure rfl) ?_
    refine w_nil ?_
    refine then_n ?_
    repeat refine wc_seq ?_
    refine wc_condT rfl (fun h25 => ?_) (fun h25 => ?_)
    · simp only [decide_eq_true_eq] at h25
      refine wc_skip ?_
      refine then_n ?_
      repeat refine wc_seq ?_
      refine wc_block ?_
      refine wc_region ?_
      refine w_val rfl rfl (op_pure rfl) ?_
      refine w_val rfl rfl (op_pure rfl) ?_
      refine w_val rfl rfl (op_idxF rfl rfl (natA_cast _ _) rfl rfl rfl rfl (by assumption) (by omega)) ?_
      refine w_val rfl rfl (op_load rfl rfl (Row.mk_pt hvz hp) rfl) ?_
      refine w_val rfl rfl (op_pure rfl) ?_
      refine w_val rfl rfl (op_pure rfl) ?_
      refine w_val rfl rfl (op_mul rfl rfl (by unfold In64; omega)) ?_
      refine w_val rfl rfl (op_pure rfl) ?_
      refine w_val rfl rfl (op_add rfl rfl (by unfold In64; omega)) ?_
      refine w_val rfl rfl (op_pure rfl) ?_
      refine w_val rfl rfl (op_idxF rfl rfl (natA_cast _ _) rfl rfl rfl rfl hxr (by omega)) ?_
      refine w_store_row rfl rfl rfl rfl rfl rfl rfl hK.ok hxr (fun e => by have := hn p hpm e; rw [this] at hxr; have h0 := congrArg List.length (show xs.map inC = [] from hxr); rw [List.length_map, List.length_nil] at h0; omega) (by rw [List.length_map]; omega) ?_
      intro zz hx2 hk2 hc2
      have hI := hI.upd hd hp hk2 (xs := xs.set k (mkI i k)) (G' := MarkG mkI i (k + 1)) (by rw [List.map_set]; exact hx2) (by rw [List.length_set]; exact hxl) (hxG.step (by omega)) (fun q xs hq h => h.other hq)
      have hK := hK.trans hk2 (fun g hg => .inl (List.mem_flatMap.2 ⟨p, hpm, hg⟩))
      clear hx2 hk2 hc2 hxr hxG
      refine w_nil ?_
      refine out_n ?_
      refine then_n ?_
      refine wc_region ?_
      refine w_val rfl rfl (op_pure rfl) ?_
      refine w_val rfl rfl (op_add rfl rfl (by unfold In64; omega)) ?_
      refine w_val rfl rfl (op_pure rfl) ?_
      refine w_nil ?_
      exact round_n _ _ (by omega) (Sub.cons rfl (Sub.cons rfl (Sub.cons rfl (Sub.nil _)))) ⟨k + 1, rfl, by omega, rfl, hK, hI⟩
    simp only [decide_eq_false_iff_not] at h25
    obtain rfl : k = p.2.length := by omega
    replace hI := hI.mono (G' := MarkG mkI (i + 1) 0) (fun q p' xs hq hx h => h.next fun e => by subst e; rw [hp] at hq; cases hq; omega)
    clear hxr hxG hxs
    refine wc_exit ?_
    repeat first | refine then_x ?_ | refine round_x ?_ | refine cut_x ?_ | refine out_x' (by decide) ?_
    refine out_x ?_
    refine out_n ?_
    refine then_n ?_
    refine wc_region ?_
    refine w_val rfl rfl (op_pure rfl) ?_
    refine w_val rfl rfl (op_add rfl rfl (by unfold In64; omega)) ?_
    refine w_val rfl rfl (op_pure rfl) ?_
    refine w_nil ?_
    exact round_n _ _ (by omega) (Sub.cons rfl (Sub.cons rfl (Sub.nil _))) ⟨i + 1, rfl, by omega, rfl, hK, hI⟩
  simp only [decide_eq_false_iff_not] at h16
  obtain rfl : i = data.length := by omega
  refine wc_exit ?_
  repeat first | refine then_x ?_ | refine round_x ?_ | refine cut_x ?_ | refine out_x' (by decide) ?_
  refine out_x ?_
  refine then_n ?_
  repeat refine wc_seq ?_
  have hcut := hK.ctr
  have hA : Ap2 s 2 inC data mkI tlI 0 z.ctr [] .nils z := ⟨hK, hI.mono fun q p xs hq _ h => h.1 (List.getElem?_eq_some_iff.1 hq).1, rfl, fun j w p h => (by simp at h), rfl, fun g hg => (by cases hg), fun _ => rfl, fun j w h => (by simp at h), ⟨hcut, Nat.le_refl _⟩⟩
  clear hI hK hvz
  refine wc_region ?_
  refine w_val rfl rfl (op_pure rfl) ?_
  refine w_nil ?_
  refine then_n ?_
  repeat refine wc_seq ?_
  refine wc_region ?_
  refine w_val rfl rfl (op_pure rfl) ?_
  refine w_nil ?_
  refine then_n ?_
  repeat refine wc_seq ?_
  refine wc_block ?_
  refine wc_loop_at (fun j m z => ∃ (i cut : Nat) (ms : List AV) (F : AV), j = data.length - i ∧ i ≤ data.length ∧ m = [(0, v), (5, F), (6, .int .i64 (i : Nat))] ∧ Ap2 s 2 inC data mkI tlI i cut ms F z) data.length
    [(0, v), (5, .nils), (6, .int .i64 ((0 : Nat) : Int))] (Sub.cons rfl (Sub.cons rfl (Sub.cons rfl (Sub.nil _)))) ⟨0, _, _, _, by simp, by simp, rfl, hA⟩ ?_
  clear hA hcut
  rintro j m z ⟨i, cut, ms, F, rfl, hi, rfl, hA⟩
  have hvz := hv.keep hA.K hvX
  have hcut := hA.cutb
  repeat refine wc_seq ?_
  refine wc_region ?_
  refine w_val rfl rfl (op_pure rfl) ?_
  refine w_val rfl rfl (op_pure rfl) ?_
  refine w_val rfl rfl (op_len rfl rfl rfl rfl rfl (by assumption)) ?_
  refine w_val rfl rfl (op_pure rfl) ?_
  refine w_nil ?_
  refine then_n ?_
  repeat refine wc_seq ?_
  refine wc_condT rfl (fun h42 => ?_) (fun h42 => ?_)
  · simp only [decide_eq_true_eq] at h42
    refine wc_skip ?_
    refine then_n ?_
    repeat refine wc_seq ?_
    refine wc_block ?_
    repeat refine wc_seq ?_
    obtain ⟨p, hp⟩ : ∃ x, data[i]? = some x := ⟨_, List.getElem?_eq_getElem (by omega)⟩
    have hpm := List.mem_of_getElem? hp
    have hpl := hl2 p hpm
    obtain ⟨xs, hxl, hxr, hxG⟩ := hA.old i p hp
    unfold FullG at hxG
    rw [hxl] at hxG
    rw [hxG] at hxr
    clear hxG hxl
    refine wc_region ?_
    refine w_val rfl rfl (op_pure rfl) ?_
    refine w_val rfl rfl (op_pure rfl) ?_
    refine w_val rfl rfl (op_idxF rfl rfl (natA_cast _ _) rfl rfl rfl rfl (by assumption) (by omega)) ?_
    refine w_val rfl rfl (op_load rfl rfl (Row.mk_pt hvz hp) rfl) ?_
    refine w_val rfl rfl (op_pure rfl) ?_
    refine w_nil ?_
    refine then_n ?_
    repeat refine wc_seq ?_
    refine wc_region ?_
    refine w_val rfl rfl (op_pure rfl) ?_
    refine w_nil ?_
    refine then_n ?_
    repeat refine wc_seq ?_
    refine wc_block ?_
    refine wc_loop_at (fun j m z => ∃ (k : Nat) (l : AV), j = 30 - k ∧ k ≤ 30 ∧ m = [(0, v), (5, F), (6, .int .i64 (i : Nat)), (7, l), (8, .int .i64 (k : Nat))] ∧ Ap2 s 2 inC data mkI tlI i cut ms F z ∧ Row z.h 2 p.1 ((fullM mkI i p.2.length).map inC) ∧ Row z.h 2 l ((fullM mkI i p.2.length ++ fullM tlI i k).map inC) ∧
        (∀ g ∈ l.gs, g ∈ p.1.gs ∨ cut ≤ g) ∧ (l.gs = [] → l = .nils) ∧ (∀ g ∈ p.1.gs, g ∈ l.gs → finA z.h p.1 ≤ finA z.h l)) 30
      [(0, v), (5, F), (6, .int .i64 (i : Nat)), (7, p.1), (8, .int .i64 ((0 : Nat) : Int))] (Sub.cons rfl (Sub.cons rfl (Sub.cons rfl (Sub.cons rfl (Sub.cons rfl (Sub.nil _)))))) ⟨0, p.1, by simp, by simp, rfl, hA, hxr, by simpa [fullM] using hxr, fun g hg => .inl hg, hn p hpm, fun g _ _ => Nat.le_refl _⟩ ?_
    clear hA hxr hvz
    rintro j1 m1 z ⟨k, l, rfl, hk, rfl, hA, hxr, hl, hlb, hln, hlf⟩
    have hcut := hA.cutb
    repeat refine wc_seq ?_
    refine wc_region ?_
    refine w_val rfl rfl (op_pure rfl) ?_
    refine w_val rfl rfl (op_pure rfl) ?_
    refine w_nil ?_
    refine then_n ?_
    repeat refine wc_seq ?_
    refine wc_condT rfl (fun h50 => ?_) (fun h50 => ?_)
    · simp only [decide_eq_true_eq] at h50
      refine wc_skip ?_
      refine then_n ?_
      repeat refine wc_seq ?_
      refine wc_block ?_
      refine wc_region ?_
      refine w_val rfl rfl (op_pure rfl) ?_
      refine w_val rfl rfl (op_pure rfl) ?_
      refine w_val rfl rfl (op_mul rfl rfl (by unfold In64; omega)) ?_
      refine w_val rfl rfl (op_add rfl rfl (by unfold In64; omega)) ?_
      refine w_val rfl rfl (op_pure rfl) ?_
      refine w_val rfl rfl (op_add rfl rfl (by unfold In64; omega)) ?_
      refine w_val rfl rfl (op_pure rfl) ?_
      refine w_lit1 (c := [.int .i64 (500000 + 1000 * (i : Int) + (k : Nat)), .int .i64 0]) rfl rfl rfl rfl rfl rfl rfl (by decide) (by decide) rfl rfl rfl hA.K.ok ?_
      rintro b z1 hb1 hk1 hc1 hg1
      have hA := hA.grow hd hb hp hk1 (fun g hg => by cases hg) (fun xs h => h.keep0 hk1)
      have hfp : finA z1.h p.1 = finA z.h p.1 := finA_keep hxr hk1 (fun g _ h => by cases h)
      have hfl : finA z1.h l = finA z.h l := finA_keep hl hk1 (fun g _ h => by cases h)
      rw [← hfp, ← hfl] at hlf
      have hxr := hxr.keep0 hk1
      have hl := hl.keep0 hk1
      have hcz : cut ≤ z1.ctr := by have := hA.cutb; omega
      clear hfp hfl hk1 hc1 hg1
      refine w_appendK (sz := 2) (ns := [tlI i k].map inC) rfl rfl rfl rfl rfl rfl rfl rfl rfl rfl (by decide) hA.K.ok hl hln hb1 (by simp only [List.length_map, List.length_append, List.length_cons, List.length_nil, fullM_len, maxBytes]; omega) (by simp only [List.length_map, List.length_append, List.length_cons, List.length_nil, fullM_len, maxBytes]; omega) ?_
      rintro l2 z2 hl2' hk2 hc2 hg2 hn2 - hap
      rw [← List.map_append, List.append_assoc, show fullM tlI i k ++ [tlI i k] = fullM tlI i (k + 1) by simp [fullM, List.range_succ]] at hl2'
      have hlt := hxr.lt hA.K.ok
      obtain ⟨hx2, hfx⟩ := hap.rows hxr hlf
      have hlf2 : ∀ g ∈ p.1.gs, g ∈ l2.gs → finA z2.h p.1 ≤ finA z2.h l2 := fun g h1 h2 => by
        rcases hg2 with e | e
        · rw [e] at h2
          rw [hfx, hap.fin e (fun e0 => by rw [e0] at h2; cases h2)]
          exact Nat.le_trans (hlf g h1 h2) (Nat.le_add_right _ _)
        · rw [e] at h2; have := hlt g h1; rw [List.mem_singleton.1 h2] at this; omega
      have hlb2 : ∀ g ∈ l2.gs, g ∈ p.1.gs ∨ cut ≤ g := fun g h => by
        rcases hg2 with e | e
        · rw [e] at h; exact hlb g h
        · rw [e] at h; rw [List.mem_singleton.1 h]; exact .inr hcz
      have hA := hA.grow hd hb hp hk2 hlb (fun xs h => (hap.rows h hlf).1)
      clear hap hfx hxr hl hb1
      refine w_val rfl rfl (op_pure rfl) ?_
      refine w_nil ?_
      refine out_n ?_
      refine then_n ?_
      refine wc_region ?_
      refine w_val rfl rfl (op_pure rfl) ?_
      refine w_val rfl rfl (op_add rfl rfl (by unfold In64; omega)) ?_
      refine w_val rfl rfl (op_pure rfl) ?_
      refine w_nil ?_
      exact round_n _ _ (by omega) (Sub.cons rfl (Sub.cons rfl (Sub.cons rfl (Sub.cons rfl (Sub.cons rfl (Sub.nil _)))))) ⟨k + 1, l2, rfl, by omega, rfl, hA, hx2, hl2', hlb2, hn2, hlf2⟩
    simp only [decide_eq_false_iff_not] at h50
    obtain rfl : k = 30 := by omega
    refine wc_exit ?_
    repeat first | refine then_x ?_ | refine round_x ?_ | refine cut_x ?_ | refine out_x' (by decide) ?_
    refine out_x ?_
    refine then_n ?_
    refine wc_region ?_
    refine w_val rfl rfl (op_pure rfl) ?_
    refine w_val rfl rfl (op_pure rfl) ?_
    refine w_lit1 (c := [l]) rfl rfl rfl rfl rfl rfl rfl (by decide) (by decide) (fillS1 hl.leaf) (by simp only [List.all_cons, List.all_nil, hl.leaf]; rfl) rfl hA.K.ok ?_
    rintro b z1 hb1 hk1 hc1 -
    have hA := hA.grow hd hb hp hk1 (fun g hg => by cases hg) (fun xs h => h.keep0 hk1)
    have hl := hl.keep0 hk1
    clear hk1 hc1
    refine w_append rfl rfl rfl rfl rfl rfl rfl rfl rfl (by decide) hA.K.ok hA.rF hA.Fn hb1 (by rw [List.length_map, hA.len]; simp only [List.length_cons, List.length_nil, maxBytes]; omega) (by rw [List.length_map, hA.len]; simp only [List.length_cons, List.length_nil, maxBytes]; omega) ?_
    rintro F2 z2 hF2 hk2 - hg2 hn2 -
    have hA := hA.push hb hp hl hlb hF2 hk2 hg2 hn2
    refine w_val rfl rfl (op_pure rfl) ?_
    refine w_nil ?_
    refine out_n ?_
    refine then_n ?_
    refine wc_region ?_
    refine w_val rfl rfl (op_pure rfl) ?_
    refine w_val rfl rfl (op_add rfl rfl (by unfold In64; omega)) ?_
    refine w_val rfl rfl (op_pure rfl) ?_
    refine w_nil ?_
    exact round_n _ _ (by omega) (Sub.cons rfl (Sub.cons rfl (Sub.cons rfl (Sub.nil _)))) ⟨i + 1, _, _, F2, rfl, by omega, rfl, hA⟩
  simp only [decide_eq_false_iff_not] at h42
  obtain rfl : i = data.length := by omega
  refine wc_exit ?_
  repeat first | refine then_x ?_ | refine round_x ?_ | refine cut_x ?_ | refine out_x' (by decide) ?_
  refine out_x ?_
  refine then_n ?_
  repeat refine wc_seq ?_
  have hFz := hA.rF
  have hml := hA.len
  refine wc_region ?_
  refine w_val rfl rfl (op_pure rfl) ?_
  refine w_nil ?_
  refine then_n ?_
  repeat refine wc_seq ?_
  refine wc_block ?_
  refine wc_loop_at (fun j m z' => ∃ i : Nat, j = data.length - i ∧ i ≤ data.length ∧ m = [(0, v), (5, F), (9, .int .i64 (i : Nat))] ∧ z = z') data.length
    [(0, v), (5, F), (9, .int .i64 ((0 : Nat) : Int))] (Sub.cons rfl (Sub.cons rfl (Sub.cons rfl (Sub.nil _)))) ⟨0, by simp, by simp, rfl, rfl⟩ ?_
  rintro j m _ ⟨i, rfl, hi, rfl, rfl⟩
  repeat refine wc_seq ?_
  refine wc_region ?_
  refine w_val rfl rfl (op_pure rfl) ?_
  refine w_val rfl rfl (op_pure rfl) ?_
  refine w_val rfl rfl (op_len rfl rfl rfl rfl rfl (by assumption)) ?_
  refine w_val rfl rfl (op_pure rfl) ?_
  refine w_nil ?_
  refine then_n ?_
  repeat refine wc_seq ?_
  refine wc_condT rfl (fun h69 => ?_) (fun h69 => ?_)
  · simp only [decide_eq_true_eq] at h69
    refine wc_skip ?_
    refine then_n ?_
    repeat refine wc_seq ?_
    refine wc_block ?_
    repeat refine wc_seq ?_
    obtain ⟨p, hp⟩ : ∃ x, data[i]? = some x := ⟨_, List.getElem?_eq_getElem (by omega)⟩
    have hpm := List.mem_of_getElem? hp
    have hpl := hl2 p hpm
    obtain ⟨xs, hxl, hxr, hxG⟩ := hA.old i p hp
    unfold FullG at hxG
    rw [hxl] at hxG
    rw [hxG] at hxr
    clear hxG hxl
    have hxs : p.1.slen = some p.2.length := hxr.slenF.trans (by rw [fullM_len])
    obtain ⟨w, hw⟩ : ∃ x, ms[i]? = some x := ⟨_, List.getElem?_eq_getElem (by omega)⟩
    obtain ⟨hwr, -⟩ := hA.new i w p hw hp
    refine wc_region ?_
    refine w_val rfl rfl (op_pure rfl) ?_
    refine w_val rfl rfl (op_pure rfl) ?_
    refine w_val rfl rfl (op_idxF rfl rfl (natA_cast _ _) rfl rfl rfl rfl (by assumption) (by omega)) ?_
    refine w_val rfl rfl (op_load rfl rfl (Row.mk_pt hvz hp) rfl) ?_
    refine w_val rfl rfl (op_len rfl rfl rfl rfl rfl (by assumption)) ?_
    refine w_val rfl rfl (op_pure rfl) ?_
    refine w_nil ?_
    refine then_n ?_
    repeat refine wc_seq ?_
    refine wc_region ?_
    refine w_val rfl rfl (op_pure rfl) ?_
    refine w_nil ?_
    refine then_n ?_
    repeat refine wc_seq ?_
    refine wc_block ?_
    refine wc_loop_at (fun j m z' => ∃ k : Nat, j = p.2.length - k ∧ k ≤ p.2.length ∧ m = [(0, v), (5, F), (9, .int .i64 (i : Nat)), (10, .int .i64 (p.2.length : Nat)), (11, .int .i64 (k : Nat))] ∧ z = z') p.2.length
      [(0, v), (5, F), (9, .int .i64 (i : Nat)), (10, .int .i64 (p.2.length : Nat)), (11, .int .i64 ((0 : Nat) : Int))] (Sub.cons rfl (Sub.cons rfl (Sub.cons rfl (Sub.cons rfl (Sub.cons rfl (Sub.nil _)))))) ⟨0, by simp, by simp, rfl, rfl⟩ ?_
    rintro j1 m1 _ ⟨k, rfl, hk, rfl, rfl⟩
    repeat refine wc_seq ?_
    refine wc_region ?_
    refine w_val rfl rfl (op_pure rfl) ?_
    refine w_val rfl rfl (op_pure rfl) ?_
    refine w_val rfl rfl (op_pure rfl) ?_
    refine w_nil ?_
    refine then_n ?_
    repeat refine wc_seq ?_
    refine wc_condT rfl (fun h79 => ?_) (fun h79 => ?_)
    · simp only [decide_eq_true_eq] at h79
      refine wc_skip ?_
      refine then_n ?_
      repeat refine wc_seq ?_
      refine wc_block ?_
      repeat refine wc_seq ?_
      have hxk : (fullM mkI i p.2.length)[k]? = some (mkI i k) := fullM_get _ (by omega)
      have hwk : (fullM mkI i p.2.length ++ fullM tlI i 30)[k]? = some (mkI i k) := by rw [List.getElem?_append_left (by rw [fullM_len]; omega)]; exact hxk
      refine wc_region ?_
      refine w_val rfl rfl (op_pure rfl) ?_
      refine w_val rfl rfl (op_pure rfl) ?_
      refine w_val rfl rfl (op_idxF rfl rfl (natA_cast _ _) rfl rfl rfl rfl (by assumption) (by omega)) ?_
      refine w_val rfl rfl (op_load rfl rfl (Row.mk_pt hvz hp) rfl) ?_
      refine w_val rfl rfl (op_pure rfl) ?_
      refine w_val rfl rfl (op_idxF rfl rfl (natA_cast _ _) rfl rfl rfl rfl hxr (by rw [fullM_len]; omega)) ?_
      refine w_val rfl rfl (op_fld rfl rfl rfl rfl (by decide) (Row.mk_pt hxr hxk) (Nat.le_of_ble_eq_true rfl)) ?_
      refine w_val rfl rfl (op_load rfl rfl ((Row.mk_pt hxr hxk).fld _ (Nat.le_of_ble_eq_true rfl)) rfl) ?_
      refine w_val rfl rfl (op_pure rfl) ?_
      refine w_val rfl rfl (op_mul rfl rfl (by unfold In64; omega)) ?_
      refine w_val rfl rfl (op_pure rfl) ?_
      refine w_val rfl rfl (op_add rfl rfl (by unfold In64; omega)) ?_
      refine w_val rfl rfl (op_int (v := .bool false) rfl rfl (by decide) (by simp [intA, mkI])) ?_
      refine w_val rfl rfl (op_pure rfl) ?_
      refine w_split (i := 95) rfl (fun h95 => ?_) (fun h95 => ?_)
      · cases h95
      skip
      refine w_val rfl rfl (op_pure rfl) ?_
      refine w_val rfl rfl (op_pure rfl) ?_
      refine w_val rfl rfl (op_idxF rfl rfl (natA_cast _ _) rfl rfl rfl rfl hFz (by omega)) ?_
      refine w_val rfl rfl (op_load rfl rfl (Row.mk_pt hFz hw) rfl) ?_
      refine w_val rfl rfl (op_pure rfl) ?_
      refine w_val rfl rfl (op_idxF rfl rfl (natA_cast _ _) rfl rfl rfl rfl hwr (by rw [List.length_append, fullM_len, fullM_len]; omega)) ?_
      refine w_val rfl rfl (op_fld rfl rfl rfl rfl (by decide) (Row.mk_pt hwr hwk) (Nat.le_of_ble_eq_true rfl)) ?_
      refine w_val rfl rfl (op_load rfl rfl ((Row.mk_pt hwr hwk).fld _ (Nat.le_of_ble_eq_true rfl)) rfl) ?_
      refine w_val rfl rfl (op_pure rfl) ?_
      refine w_val rfl rfl (op_mul rfl rfl (by unfold In64; omega)) ?_
      refine w_val rfl rfl (op_pure rfl) ?_
      refine w_val rfl rfl (op_add rfl rfl (by unfold In64; omega)) ?_
      refine w_val rfl rfl (op_int (v := .bool false) rfl rfl (by decide) (by simp [intA, mkI])) ?_
      refine w_val rfl rfl (op_pure rfl) ?_
      refine w_nil ?_
      refine then_n ?_
      refine wc_condT rfl (fun h109 => ?_) (fun h109 => ?_)
      · cases h109
      skip
      refine wc_skip ?_
      refine out_n ?_
      refine then_n ?_
      refine wc_region ?_
      refine w_val rfl rfl (op_pure rfl) ?_
      refine w_val rfl rfl (op_add rfl rfl (by unfold In64; omega)) ?_
      refine w_val rfl rfl (op_pure rfl) ?_
      refine w_nil ?_
      exact round_n _ _ (by omega) (Sub.cons rfl (Sub.cons rfl (Sub.cons rfl (Sub.cons rfl (Sub.cons rfl (Sub.nil _)))))) ⟨k + 1, rfl, by omega, rfl, rfl⟩
    simp only [decide_eq_false_iff_not] at h79
    obtain rfl : k = p.2.length := by omega
    refine wc_exit ?_
    repeat first | refine then_x ?_ | refine round_x ?_ | refine cut_x ?_ | refine out_x' (by decide) ?_
    refine out_x ?_
    refine then_n ?_
    repeat refine wc_seq ?_
    refine wc_region ?_
    refine w_val rfl rfl (op_pure rfl) ?_
    refine w_nil ?_
    refine then_n ?_
    refine wc_block ?_
    refine wc_loop_at (fun j m z' => ∃ k : Nat, j = 30 - k ∧ k ≤ 30 ∧ m = [(0, v), (5, F), (9, .int .i64 (i : Nat)), (10, .int .i64 (p.2.length : Nat)), (12, .int .i64 (k : Nat))] ∧ z = z') 30
      [(0, v), (5, F), (9, .int .i64 (i : Nat)), (10, .int .i64 (p.2.length : Nat)), (12, .int .i64 ((0 : Nat) : Int))] (Sub.cons rfl (Sub.cons rfl (Sub.cons rfl (Sub.cons rfl (Sub.cons rfl (Sub.nil _)))))) ⟨0, by simp, by simp, rfl, rfl⟩ ?_
    rintro j1 m1 _ ⟨k, rfl, hk, rfl, rfl⟩
    repeat refine wc_seq ?_
    refine wc_region ?_
    refine w_val rfl rfl (op_pure rfl) ?_
    refine w_val rfl rfl (op_pure rfl) ?_
    refine w_nil ?_
    refine then_n ?_
    repeat refine wc_seq ?_
    refine wc_condT rfl (fun h111 => ?_) (fun h111 => ?_)
    · simp only [decide_eq_true_eq] at h111
      refine wc_skip ?_
      refine then_n ?_
      repeat refine wc_seq ?_
      refine wc_block ?_
      repeat refine wc_seq ?_
      have hwk : (fullM mkI i p.2.length ++ fullM tlI i 30)[p.2.length + k]? = some (tlI i k) := by rw [List.getElem?_append_right (by rw [fullM_len]; omega), fullM_len, Nat.add_sub_cancel_left]; exact fullM_get _ (by omega)
      refine wc_region ?_
      refine w_val rfl rfl (op_pure rfl) ?_
      refine w_val rfl rfl (op_pure rfl) ?_
      refine w_val rfl rfl (op_idxF rfl rfl (natA_cast _ _) rfl rfl rfl rfl hFz (by omega)) ?_
      refine w_val rfl rfl (op_load rfl rfl (Row.mk_pt hFz hw) rfl) ?_
      refine w_val rfl rfl (op_pure rfl) ?_
      refine w_val rfl rfl (op_pure rfl) ?_
      refine w_val rfl rfl (op_add rfl rfl (by unfold In64; omega)) ?_
      refine w_val rfl rfl (op_idxF (n := p.2.length + k) rfl rfl (natA_add _ _ _) rfl rfl rfl rfl hwr (by rw [List.length_append, fullM_len, fullM_len]; omega)) ?_
      refine w_val rfl rfl (op_fld rfl rfl rfl rfl (by decide) (Row.mk_pt hwr hwk) (Nat.le_of_ble_eq_true rfl)) ?_
      refine w_val rfl rfl (op_load rfl rfl ((Row.mk_pt hwr hwk).fld _ (Nat.le_of_ble_eq_true rfl)) rfl) ?_
      refine w_val rfl rfl (op_pure rfl) ?_
      refine w_val rfl rfl (op_mul rfl rfl (by unfold In64; omega)) ?_
      refine w_val rfl rfl (op_add rfl rfl (by unfold In64; omega)) ?_
      refine w_val rfl rfl (op_pure rfl) ?_
      refine w_val rfl rfl (op_add rfl rfl (by unfold In64; omega)) ?_
      refine w_val rfl rfl (op_int (v := .bool false) rfl rfl (by decide) (by simp [intA, tlI])) ?_
      refine w_nil ?_
      refine then_n ?_
      refine wc_condT rfl (fun h129 => ?_) (fun h129 => ?_)
      · cases h129
      skip
      refine wc_skip ?_
      refine out_n ?_
      refine then_n ?_
      refine wc_region ?_
      refine w_val rfl rfl (op_pure rfl) ?_
      refine w_val rfl rfl (op_add rfl rfl (by unfold In64; omega)) ?_
      refine w_val rfl rfl (op_pure rfl) ?_
      refine w_nil ?_
      exact round_n _ _ (by omega) (Sub.cons rfl (Sub.cons rfl (Sub.cons rfl (Sub.cons rfl (Sub.cons rfl (Sub.nil _)))))) ⟨k + 1, rfl, by omega, rfl, rfl⟩
    simp only [decide_eq_false_iff_not] at h111
    obtain rfl : k = 30 := by omega
    refine wc_exit ?_
    repeat first | refine then_x ?_ | refine round_x ?_ | refine cut_x ?_ | refine out_x' (by decide) ?_
    refine out_x ?_
    refine out_n ?_
    refine then_n ?_
    refine wc_region ?_
    refine w_val rfl rfl (op_pure rfl) ?_
    refine w_val rfl rfl (op_add rfl rfl (by unfold In64; omega)) ?_
    refine w_val rfl rfl (op_pure rfl) ?_
    refine w_nil ?_
    exact round_n _ _ (by omega) (Sub.cons rfl (Sub.cons rfl (Sub.cons rfl (Sub.nil _)))) ⟨i + 1, rfl, by omega, rfl, rfl⟩
  simp only [decide_eq_false_iff_not] at h69
  obtain rfl : i = data.length := by omega
  refine wc_exit ?_
  repeat first | refine then_x ?_ | refine round_x ?_ | refine cut_x ?_ | refine out_x' (by decide) ?_
  refine out_x ?_
  refine then_n ?_
  repeat refine wc_seq ?_
  refine wc_region ?_
  refine w_val rfl rfl (op_pure rfl) ?_
  refine w_nil ?_
  refine then_n ?_
  refine wc_ret ?_
  repeat first | refine then_r ?_ | refine out_r ?_ | refine round_r ?_ | refine cut_r ?_ | refine sc_r ?_
  exact ⟨_, rfl, hA.K, rfl⟩
end Go.Ab
/- Modules that were handed out. -/
namespace Go.Ab
open Go.Proofs
abbrev MD := ModL × MemM
def labF (f : FM) : List (AV × List Int) := [(f.2.1, f.1.params), (f.2.2.1, f.1.results)]
def labD (q : MD) : List (AV × List Int) := (q.2.vg, q.1.globals) :: (q.2.vh, q.1.channels) :: q.2.fs.flatMap labF
def codF (f : FM) : AV × List InstrL := (f.2.2.2, f.1.code)
def codD (q : MD) : List (AV × List InstrL) := q.2.fs.map codF
theorem labD_fst (q : MD) : (labD q).map (·.1) = q.2.labs := by
  unfold labD MemM.labs
  simp only [List.map_cons, List.map_flatMap, labF, List.map_nil]
theorem codD_fst (q : MD) : (codD q).map (·.1) = q.2.cods := by
  unfold codD MemM.cods
  rw [List.map_map]; rfl
theorem map_flat {α β γ : Type} (l : List α) (f : α → List β) (g : β → γ) : (l.flatMap f).map g = l.flatMap fun x => (f x).map g := List.map_flatMap ..
theorem labs_all {M : MemM} {v : AV} (h : v ∈ M.labs) : v ∈ M.all := List.mem_cons_of_mem _ (List.mem_cons_of_mem _ (List.mem_append.2 (.inl h)))
theorem cods_all {M : MemM} {v : AV} (h : v ∈ M.cods) : v ∈ M.all := List.mem_cons_of_mem _ (List.mem_cons_of_mem _ (List.mem_append.2 (.inr h)))
theorem va_all {M : MemM} : M.va ∈ M.all := List.mem_cons_self ..
theorem vf_all {M : MemM} : M.vf ∈ M.all := List.mem_cons_of_mem _ (List.mem_cons_self ..)
theorem labD_mem {q : MD} {p : AV × List Int} (h : p ∈ labD q) : p.1 ∈ q.2.labs := by
  rw [← labD_fst]; exact List.mem_map_of_mem h
theorem codD_mem {q : MD} {p : AV × List InstrL} (h : p ∈ codD q) : p.1 ∈ q.2.cods := by
  rw [← codD_fst]; exact List.mem_map_of_mem h
theorem labD_row {h : Tr Grp} {q : MD} (k : ModO h q.1 q.2) {p : AV × List Int} (hp : p ∈ labD q) : Row h 1 p.1 (p.2.map lC) := by
  unfold labD at hp
  rcases List.mem_cons.1 hp with rfl | hp
  · exact k.g
  rcases List.mem_cons.1 hp with rfl | hp
  · exact k.ch
  obtain ⟨f, hf, hp⟩ := List.mem_flatMap.1 hp
  obtain ⟨k1, k2, k3⟩ := k.each f hf
  rcases List.mem_cons.1 hp with rfl | hp
  · exact k1
  · rw [List.mem_singleton.1 hp]; exact k2
theorem codD_row {h : Tr Grp} {q : MD} (k : ModO h q.1 q.2) {p : AV × List InstrL} (hp : p ∈ codD q) : Row h 2 p.1 (p.2.map inC) := by
  obtain ⟨f, hf, rfl⟩ := List.mem_map.1 hp
  exact (k.each f hf).2.2
theorem mod_funcs {h : Tr Grp} {q : MD} (k : ModO h q.1 q.2) {f : FM} (hf : f ∈ q.2.fs) : f.1 ∈ q.1.funcs := by
  rw [← k.fs]; exact List.mem_map_of_mem hf
theorem labD_small {h : Tr Grp} {q : MD} (k : ModO h q.1 q.2) (hs : q.1.small) {p : AV × List Int} (hp : p ∈ labD q) : p.2.length ≤ 2097152 := by
  unfold labD at hp
  rcases List.mem_cons.1 hp with rfl | hp
  · exact hs.1
  rcases List.mem_cons.1 hp with rfl | hp
  · exact hs.2.2.1
  obtain ⟨f, hf, hp⟩ := List.mem_flatMap.1 hp
  have := hs.2.2.2.2 f.1 (mod_funcs k hf)
  rcases List.mem_cons.1 hp with rfl | hp
  · exact this.1
  · rw [List.mem_singleton.1 hp]; exact this.2.1
theorem codD_small {h : Tr Grp} {q : MD} (k : ModO h q.1 q.2) (hs : q.1.small) {p : AV × List InstrL} (hp : p ∈ codD q) : p.2.length ≤ 2097152 := by
  obtain ⟨f, hf, rfl⟩ := List.mem_map.1 hp
  exact (hs.2.2.2.2 f.1 (mod_funcs k hf)).2.2
theorem flat_most {α β : Type} {l : List α} {f : α → List β} {n : Nat} (h : ∀ x ∈ l, (f x).length ≤ n) : (l.flatMap f).length ≤ l.length * n := by
  induction l with
  | nil => simp
  | cons x l ih =>
    rw [List.flatMap_cons, List.length_append, List.length_cons, Nat.succ_mul]
    have := ih fun y hy => h y (List.mem_cons_of_mem _ hy)
    have := h x (List.mem_cons_self ..)
    omega
theorem labD_len (q : MD) : (labD q).length = 2 + 2 * q.2.fs.length := by
  have : ∀ l : List FM, (l.flatMap labF).length = 2 * l.length := by
    intro l
    induction l with
    | nil => rfl
    | cons x l ih => rw [List.flatMap_cons, List.length_append, ih]; simp [labF]; omega
  unfold labD
  rw [List.length_cons, List.length_cons, this]; omega
theorem flat_snoc {α β : Type} {l : List α} {f : α → List β} {i : Nat} {x : α} (h : l[i]? = some x) : (l.take (i + 1)).flatMap f = (l.take i).flatMap f ++ f x := by
  rw [← take_snoc h, List.flatMap_append]; simp
structure Mods (h : Tr Grp) (data : List MD) : Prop where
  ok : ∀ q ∈ data, ModO h q.1 q.2
  small : ∀ q ∈ data, q.1.small ∧ q.1.funcs.length ≤ 1000
  dis : data.Pairwise fun p q => ∀ u ∈ p.2.all, ∀ w ∈ q.2.all, Dis u w
  len : data.length ≤ 100
section
variable {s s' : St} {data : List MD}
theorem Mods.fsl (k : Mods s.h data) {q : MD} (hq : q ∈ data) : q.2.fs.length ≤ 1000 := by
  have := congrArg List.length (k.ok q hq).fs
  rw [List.length_map] at this
  have := (k.small q hq).2
  omega
theorem Mods.keep (k : Mods s.h data) {Y : List Nat} (h : Keep Y s s') (hY : ∀ q ∈ data, ∀ v ∈ q.2.all, ∀ g ∈ v.gs, g ∉ Y) : Mods s'.h data := ⟨fun q hq => (k.ok q hq).keep h (hY q hq), k.small, k.dis, k.len⟩
/-- The lists of parts that are chosen from each module are apart. -/
theorem Mods.pw (k : Mods s.h data) {sel : MemM → List AV} (hs : ∀ M, List.Sublist (sel M) M.all) : (data.flatMap fun q => sel q.2).Pairwise Dis := by
  rw [List.pairwise_flatMap]
  refine ⟨fun q hq => (k.ok q hq).dis.sublist (hs q.2), k.dis.imp fun {p q} h x hx y hy => h x ((hs _).subset hx) y ((hs _).subset hy)⟩
theorem labs_sub (M : MemM) : List.Sublist M.labs M.all := .cons _ (.cons _ (List.sublist_append_left ..))
theorem cods_sub (M : MemM) : List.Sublist M.cods M.all := .cons _ (.cons _ (List.sublist_append_right ..))
/-- Two parts of the modules, of different kinds. -/
theorem Mods.apart (k : Mods s.h data) {q q' : MD} (hq : q ∈ data) (hq' : q' ∈ data) {u w : AV} (hu : u ∈ q.2.all) (hw : w ∈ q'.2.all) (hne : q = q' → Dis u w) : Dis u w := by
  obtain ⟨i, hi⟩ := List.getElem?_of_mem hq
  obtain ⟨j, hj⟩ := List.getElem?_of_mem hq'
  by_cases e : i = j
  · subst e
    rw [hi] at hj
    exact hne (Option.some.inj hj)
  · obtain ⟨h1, e1⟩ := List.getElem?_eq_some_iff.1 hi
    obtain ⟨h2, e2⟩ := List.getElem?_eq_some_iff.1 hj
    have hp := List.pairwise_iff_getElem.1 k.dis
    rcases Nat.lt_or_gt_of_ne e with h | h
    · have := hp i j h1 h2 h
      rw [e1, e2] at this
      exact this u hu w hw
    · have := hp j i h2 h1 h
      rw [e1, e2] at this
      exact (this w hw u hu).symm
theorem ModO.lab_cod {h : Tr Grp} {mm : ModL} {M : MemM} (k : ModO h mm M) {u w : AV} (hu : u ∈ M.labs) (hw : w ∈ M.cods) : Dis u w := by
  have := k.dis
  unfold MemM.all at this
  rw [List.pairwise_cons, List.pairwise_cons, List.pairwise_append] at this
  exact this.2.2.2.2 u hu w hw
theorem ModO.va_dis {h : Tr Grp} {mm : ModL} {M : MemM} (k : ModO h mm M) {w : AV} (hw : w ∈ M.vf :: (M.labs ++ M.cods)) : Dis M.va w := by
  have := k.dis
  unfold MemM.all at this
  rw [List.pairwise_cons] at this
  exact this.1 w hw
theorem ModO.vf_dis {h : Tr Grp} {mm : ModL} {M : MemM} (k : ModO h mm M) {w : AV} (hw : w ∈ M.labs ++ M.cods) : Dis M.vf w := by
  have := k.dis
  unfold MemM.all at this
  rw [List.pairwise_cons, List.pairwise_cons] at this
  exact this.2.1 w hw
end
def fnD (q : MD) : AV × List (List AV) := (q.2.vf, q.2.fs.map fC)
def arD (q : MD) : AV × List (List AV) := (q.2.va, q.1.arrays.map aC)
def mkFn (i k : Nat) : List AV := [.int .u64 0, .nils, .nils, .int .i64 0, .int .i64 (1000 * (i : Int) + (k : Nat)), .nils]
def mkAr (i k : Nat) : List AV := [.int .i64 (1000 * (i : Int) + (k : Nat)), .int .u64 0]
/-- The groups of the modules. -/
def allG (data : List MD) : List Nat := data.flatMap fun q => q.2.all.flatMap AV.gs
theorem allG_mem {data : List MD} {q : MD} (hq : q ∈ data) {v : AV} (hv : v ∈ q.2.all) {g : Nat} (hg : g ∈ v.gs) : g ∈ allG data := List.mem_flatMap.2 ⟨q, hq, List.mem_flatMap.2 ⟨v, hv, hg⟩⟩
theorem allG_lab {data : List MD} : ∀ g ∈ (data.flatMap labD).flatMap (·.1.gs), g ∈ allG data := by
  intro g hg
  obtain ⟨p, hp, hg⟩ := List.mem_flatMap.1 hg
  obtain ⟨q, hq, hp⟩ := List.mem_flatMap.1 hp
  exact allG_mem hq (labs_all (labD_mem hp)) hg
theorem allG_cod {data : List MD} : ∀ g ∈ (data.flatMap codD).flatMap (·.1.gs), g ∈ allG data := by
  intro g hg
  obtain ⟨p, hp, hg⟩ := List.mem_flatMap.1 hg
  obtain ⟨q, hq, hp⟩ := List.mem_flatMap.1 hp
  exact allG_mem hq (cods_all (codD_mem hp)) hg
theorem lab_cod_dis {s : St} {data : List MD} (k : Mods s.h data) {p : AV × List InstrL} (hp : p ∈ data.flatMap codD) : ∀ g ∈ p.1.gs, g ∉ (data.flatMap labD).flatMap (·.1.gs) := by
  intro g hg hg'
  obtain ⟨q, hq, hp⟩ := List.mem_flatMap.1 hp
  obtain ⟨p', hp', hg'⟩ := List.mem_flatMap.1 hg'
  obtain ⟨q', hq', hp'⟩ := List.mem_flatMap.1 hp'
  refine k.apart hq' hq (labs_all (labD_mem hp')) (cods_all (codD_mem hp)) (fun e => ?_) g hg' hg
  subst e
  exact (k.ok _ hq).lab_cod (labD_mem hp') (codD_mem hp)
theorem map_pair {data : List MD} : data.map (fun q => (q.2.vf, q.2.fs.map fC)) = data.map fnD := rfl
theorem fldA_gs (p : AV) (o : Nat) : ∀ g ∈ (fldA p o).gs, g ∈ p.gs := by
  cases p <;> intro g hg <;> first | exact hg | cases hg
theorem hc2L {x y : AV} (hx : x.leaf = true) (hy : y.leaf = true) : ∀ c ∈ ([[x], [y]] : List (List AV)), c.length = 1 ∧ c.all AV.leaf = true := by
  intro c hc
  rcases List.mem_cons.1 hc with rfl | hc
  · simp [hx]
  · rw [List.mem_singleton.1 hc]; simp [hy]
def lp (data : List MD) (i k : Nat) (q : MD) : List (AV × List Int) := (data.take i).flatMap labD ++ ((q.2.vg, q.1.globals) :: (q.2.vh, q.1.channels) :: (q.2.fs.take k).flatMap labF)
def cp (data : List MD) (i k : Nat) (q : MD) : List (AV × List InstrL) := (data.take i).flatMap codD ++ (q.2.fs.take k).map codF
section
variable {data : List MD} {i k : Nat} {q : MD} {f : FM} {s : St}
theorem lp_zero : (lp data i 0 q).map (fun p => [p.1]) = ((data.take i).flatMap labD).map (fun p => [p.1]) ++ [[q.2.vg], [q.2.vh]] := by
  simp [lp]
theorem cp_zero : cp data i 0 q = (data.take i).flatMap codD := by simp [cp]
theorem lp_succ (hf : q.2.fs[k]? = some f) : (lp data i (k + 1) q).map (fun p => [p.1]) = (lp data i k q).map (fun p => [p.1]) ++ [[f.2.1], [f.2.2.1]] := by
  unfold lp
  rw [flat_snoc hf]
  simp [labF]
theorem cp_succ (hf : q.2.fs[k]? = some f) : (cp data i (k + 1) q).map (fun p => [p.1]) = (cp data i k q).map (fun p => [p.1]) ++ [[f.2.2.2]] := by
  unfold cp
  rw [← take_snoc hf]
  simp [codF]
theorem lp_all (hq : data[i]? = some q) : lp data i q.2.fs.length q = (data.take (i + 1)).flatMap labD := by
  unfold lp
  rw [flat_snoc hq, List.take_length]; rfl
theorem cp_all (hq : data[i]? = some q) : cp data i q.2.fs.length q = (data.take (i + 1)).flatMap codD := by
  unfold cp
  rw [flat_snoc hq, List.take_length]; rfl
theorem lab_most (hM : Mods s.h data) (i : Nat) : ((data.take i).flatMap labD).length ≤ 200200 := by
  have := flat_most (l := data.take i) (f := labD) (n := 2002) fun x hx => by rw [labD_len]; have := hM.fsl (List.mem_of_mem_take hx); omega
  have h2 : (data.take i).length ≤ 100 := by rw [List.length_take]; have := hM.len; omega
  have := Nat.mul_le_mul_right 2002 h2
  omega
theorem cod_most (hM : Mods s.h data) (i : Nat) : ((data.take i).flatMap codD).length ≤ 100000 := by
  have := flat_most (l := data.take i) (f := codD) (n := 1000) fun x hx => by unfold codD; rw [List.length_map]; exact hM.fsl (List.mem_of_mem_take hx)
  have h2 : (data.take i).length ≤ 100 := by rw [List.length_take]; have := hM.len; omega
  have := Nat.mul_le_mul_right 1000 h2
  omega
theorem lp_most (hM : Mods s.h data) (i : Nat) (hq : q ∈ data) (k : Nat) : (lp data i k q).length ≤ 300000 := by
  have h1 := lab_most hM i
  have h2 : ∀ l : List FM, (l.flatMap labF).length = 2 * l.length := by
    intro l
    induction l with
    | nil => rfl
    | cons x l ih => rw [List.flatMap_cons, List.length_append, ih]; simp [labF]; omega
  have h3 := hM.fsl hq
  unfold lp
  rw [List.length_append, List.length_cons, List.length_cons, h2, List.length_take]
  omega
theorem cp_most (hM : Mods s.h data) (i : Nat) (hq : q ∈ data) (k : Nat) : (cp data i k q).length ≤ 300000 := by
  have h1 := cod_most hM i
  have h3 := hM.fsl hq
  unfold cp
  rw [List.length_append, List.length_map, List.length_take]
  omega
theorem all_lt {mm : ModL} {M : MemM} (h : ModO s.h mm M) (hok : s.Ok) {w : AV} (hw : w ∈ M.all) : ∀ g ∈ w.gs, g < s.ctr := by
  unfold MemM.all MemM.labs MemM.cods at hw
  simp only [List.cons_append, List.mem_cons, List.mem_append, List.mem_flatMap, List.mem_map, List.not_mem_nil, or_false] at hw
  rcases hw with rfl | rfl | rfl | rfl | ⟨f, hf, rfl | rfl⟩ | ⟨f, hf, rfl⟩
  · exact h.a.lt hok
  · exact h.f.lt hok
  · exact h.g.lt hok
  · exact h.ch.lt hok
  · exact (h.each f hf).1.lt hok
  · exact (h.each f hf).2.1.lt hok
  · exact (h.each f hf).2.2.lt hok
theorem fn_lab (hM : Mods s.h data) (hq : q ∈ data) : ∀ g ∈ (fnD q).1.gs, g ∉ (data.flatMap labD).flatMap (·.1.gs) := by
  intro g hg h
  obtain ⟨p, hp, h⟩ := List.mem_flatMap.1 h
  obtain ⟨q', hq', hp⟩ := List.mem_flatMap.1 hp
  refine hM.apart hq hq' vf_all (labs_all (labD_mem hp)) (fun e => ?_) g hg h
  subst e
  exact (hM.ok _ hq).vf_dis (List.mem_append.2 (.inl (labD_mem hp)))
theorem fn_cod (hM : Mods s.h data) (hq : q ∈ data) : ∀ g ∈ (fnD q).1.gs, g ∉ (data.flatMap codD).flatMap (·.1.gs) := by
  intro g hg h
  obtain ⟨p, hp, h⟩ := List.mem_flatMap.1 h
  obtain ⟨q', hq', hp⟩ := List.mem_flatMap.1 hp
  refine hM.apart hq hq' vf_all (cods_all (codD_mem hp)) (fun e => ?_) g hg h
  subst e
  exact (hM.ok _ hq).vf_dis (List.mem_append.2 (.inr (codD_mem hp)))
theorem ar_lab (hM : Mods s.h data) (hq : q ∈ data) : ∀ g ∈ (arD q).1.gs, g ∉ (data.flatMap labD).flatMap (·.1.gs) := by
  intro g hg h
  obtain ⟨p, hp, h⟩ := List.mem_flatMap.1 h
  obtain ⟨q', hq', hp⟩ := List.mem_flatMap.1 hp
  refine hM.apart hq hq' va_all (labs_all (labD_mem hp)) (fun e => ?_) g hg h
  subst e
  exact (hM.ok _ hq).va_dis (List.mem_cons_of_mem _ (List.mem_append.2 (.inl (labD_mem hp))))
theorem ar_cod (hM : Mods s.h data) (hq : q ∈ data) : ∀ g ∈ (arD q).1.gs, g ∉ (data.flatMap codD).flatMap (·.1.gs) := by
  intro g hg h
  obtain ⟨p, hp, h⟩ := List.mem_flatMap.1 h
  obtain ⟨q', hq', hp⟩ := List.mem_flatMap.1 hp
  refine hM.apart hq hq' va_all (cods_all (codD_mem hp)) (fun e => ?_) g hg h
  subst e
  exact (hM.ok _ hq).va_dis (List.mem_cons_of_mem _ (List.mem_append.2 (.inr (codD_mem hp))))
theorem fn_ar (hM : Mods s.h data) {q' : MD} (hq : q ∈ data) (hq' : q' ∈ data) : ∀ g ∈ (fnD q).1.gs, g ∉ (arD q').1.gs := by
  refine hM.apart hq hq' vf_all va_all (fun e => ?_)
  subst e
  exact ((hM.ok _ hq).va_dis (List.mem_cons_self ..)).symm
theorem fn_pw (hM : Mods s.h data) : ((data.map fnD).map (·.1)).Pairwise Dis := by
  rw [List.map_map, List.pairwise_map]
  exact hM.dis.imp fun {a b} h => h _ vf_all _ vf_all
theorem ar_pw (hM : Mods s.h data) : ((data.map arD).map (·.1)).Pairwise Dis := by
  rw [List.map_map, List.pairwise_map]
  exact hM.dis.imp fun {a b} h => h _ va_all _ va_all
end
set_option maxRecDepth 10000 in
set_option maxHeartbeats 8000000 in
theorem modules_ok {s : St} {v : AV} {data : List MD} (hok : s.Ok) (hv : Row s.h 4 v (data.map fun q => q.2.cells)) (hM : Mods s.h data) (hvX : ∀ g ∈ v.gs, g ∉ allG data) :
    CallS Try.prog Tt Kt 32 [v] s (fun r s' => Keep (allG data) s s' ∧ r = .bool true) := by
  refine call_of (fn := Try.f32) (nt := 187) Try.func32 rfl rfl rfl ?_
  repeat refine wc_seq ?_
  have hM0 := hM
  have hvl : v.slen = some data.length := hv.slenF
  have hS : SH s [rowC .nils 1 (((data.take 0).flatMap labD).map fun p => [p.1]), rowC .nils 1 (((data.take 0).flatMap codD).map fun p => [p.1])] s := ((SH.start hok).nil 1).nil 1
  have hdl := hM.len
  refine wc_region ?_
  refine w_val rfl rfl (op_pure rfl) ?_
  refine w_nil ?_
  refine then_n ?_
  repeat refine wc_seq ?_
  refine wc_region ?_
  refine w_val rfl rfl (op_pure rfl) ?_
  refine w_nil ?_
  refine then_n ?_
  repeat refine wc_seq ?_
  refine wc_region ?_
  refine w_val rfl rfl (op_pure rfl) ?_
  refine w_nil ?_
  refine then_n ?_
  repeat refine wc_seq ?_
  refine wc_region ?_
  refine w_val rfl rfl (op_pure rfl) ?_
  refine w_nil ?_
  refine then_n ?_
  repeat refine wc_seq ?_
  refine wc_block ?_
  refine wc_loop_at (fun j m z => ∃ (i : Nat) (lw cw : AV), j = data.length - i ∧ i ≤ data.length ∧ m = [(0, v), (3, lw), (4, cw), (5, .int .i64 (i : Nat))] ∧ SH s [rowC lw 1 (((data.take i).flatMap labD).map fun p => [p.1]), rowC cw 1 (((data.take i).flatMap codD).map fun p => [p.1])] z) data.length
    [(0, v), (3, .nils), (4, .nils), (5, .int .i64 ((0 : Nat) : Int))] (Sub.cons rfl (Sub.cons rfl (Sub.cons rfl (Sub.cons rfl (Sub.nil _))))) ⟨0, .nils, .nils, by simp, by simp, rfl, hS⟩ ?_
  clear hS
  rintro j m z ⟨i, lw, cw, rfl, hi, rfl, hS⟩
  have hK := hS.K
  have hvz := hv.keep0 hK
  repeat refine wc_seq ?_
  refine wc_region ?_
  refine w_val rfl rfl (op_pure rfl) ?_
  refine w_val rfl rfl (op_pure rfl) ?_
  refine w_val rfl rfl (op_len rfl rfl rfl rfl rfl (by assumption)) ?_
  refine w_val rfl rfl (op_pure rfl) ?_
  refine w_nil ?_
  refine then_n ?_
  repeat refine wc_seq ?_
  refine wc_condT rfl (fun h16 => ?_) (fun h16 => ?_)
  · simp only [decide_eq_true_eq] at h16
    refine wc_skip ?_
    refine then_n ?_
    repeat refine wc_seq ?_
    refine wc_block ?_
    repeat refine wc_seq ?_
    obtain ⟨q, hq⟩ : ∃ x, data[i]? = some x := ⟨_, List.getElem?_eq_getElem (by omega)⟩
    have hqm := List.mem_of_getElem? hq
    have hfl := hM.fsl hqm
    have hMq := (hM.ok q hqm).keep hK (fun _ _ _ _ h => by cases h)
    have hR := Keep.refl hS.ok
    have hLb : ∀ g ∈ lw.gs, s.ctr ≤ g := fun g hg => (hS.bd 0 rfl g hg).1
    have hvlt := hv.lt hok
    have hXv : ∀ g ∈ (elemA v i).gs, g ∉ lw.gs := fun g hg h => by have := hvlt g (elemA_gs _ _ g hg); have := hLb g h; omega
    refine wc_draw (Old z lw.gs) (by kernel_rfl) rfl ?_
    refine wo_val (fun _ => rfl) rfl rfl (op_pure rfl) ?_
    refine wo_val (fun _ => rfl) rfl rfl (op_pure rfl) ?_
    refine wo_val (fun _ => rfl) rfl rfl (op_pure rfl) ?_
    refine wo_val (fun _ => rfl) rfl rfl (op_idxF rfl rfl (natA_cast _ _) rfl rfl rfl rfl (Row.bare (hvz)) (by omega)) ?_
    refine wo_val (fun _ => rfl) rfl rfl (op_fld rfl rfl rfl rfl (by decide) (Pt.bare (Row.mk_pt hvz hq)) (Nat.le_of_ble_eq_true rfl)) ?_
    refine wo_load hR rfl rfl ((Row.mk_pt hvz hq).fld 0 (Nat.le_of_ble_eq_true rfl)) rfl (fun g hg => hXv g (fldA_gs _ _ g hg)) rfl rfl ?_
    refine wo_val (fun _ => rfl) rfl rfl (op_pure rfl) ?_
    refine wo_val (fun _ => rfl) rfl rfl (op_pure rfl) ?_
    refine wo_val (fun _ => rfl) rfl rfl (op_idxF rfl rfl (natA_cast _ _) rfl rfl rfl rfl (Row.bare (hvz)) (by omega)) ?_
    refine wo_val (fun _ => rfl) rfl rfl (op_fld rfl rfl rfl rfl (by decide) (Pt.bare (Row.mk_pt hvz hq)) (Nat.le_of_ble_eq_true rfl)) ?_
    refine wo_load hR rfl rfl ((Row.mk_pt hvz hq).fld 2 (Nat.le_of_ble_eq_true rfl)) rfl (fun g hg => hXv g (fldA_gs _ _ g hg)) rfl rfl ?_
    refine wo_lit [[q.2.vg], [q.2.vh]] hR rfl rfl rfl rfl rfl rfl rfl (by decide) (by decide) (fill2 hMq.g.leaf hMq.ch.leaf) (by simp only [List.all_cons, List.all_nil, hMq.g.leaf, hMq.ch.leaf]; rfl) rfl (hc2L hMq.g.leaf hMq.ch.leaf) rfl ?_
    rintro b zb hb1 hk1 hc1 hg1
    have hS := hS.mov hk1
    have hR1 := hR.two hk1
    refine wo_append hR1 (fun g hg => .inr hg) rfl rfl rfl rfl rfl rfl rfl rfl rfl (by decide) (hS.row 0 rfl) (hS.nls 0 rfl) hb1 (by simp only [List.length_map, List.length_cons, List.length_nil, maxBytes]; have := lab_most hM i; omega) (by simp only [List.length_map, List.length_cons, List.length_nil, maxBytes]; have := lab_most hM i; omega) ?_
    rintro lw2 z hl2 hk2 hc2 hg2 hn2 -
    have hS := hS.upd 0 rfl hk2 (fun g hg => hg) (rowC lw2 1 ((lp data i 0 q).map fun p => [p.1])) ⟨by rw [lp_zero]; exact hl2, hn2⟩ (fun g hg => by
      rcases hg2 with h | h
      · exact .inl (by have hg : g ∈ lw2.gs := hg; rwa [h] at hg)
      · have hg : g ∈ lw2.gs := hg
        have := hl2.lt hk2.ok g hg
        exact .inr ⟨by rw [h] at hg; rw [List.mem_singleton.1 hg]; exact Nat.le_refl _, this⟩)
    have hS : SH s [_, _] z := hS
    have hK := hS.K
    have hvz := hv.keep0 hK
    clear hb1 hk1 hc1 hg1 hl2 hk2 hc2 hg2 hn2 hR1
    clear hR hLb hXv hMq
    refine wo_val (fun _ => rfl) rfl rfl (op_pure rfl) ?_
    refine wd_nil ?_
    refine then_n ?_
    repeat refine wc_seq ?_
    refine wc_region ?_
    refine w_val rfl rfl (op_pure rfl) ?_
    refine w_nil ?_
    refine then_n ?_
    refine wc_block ?_
    have hS : SH s [rowC lw2 1 ((lp data i 0 q).map fun p => [p.1]), rowC cw 1 ((cp data i 0 q).map fun p => [p.1])] z := by rw [cp_zero]; exact hS
    refine wc_loop_at (fun j m z => ∃ (k : Nat) (lw cw : AV), j = q.2.fs.length - k ∧ k ≤ q.2.fs.length ∧ m = [(0, v), (3, lw), (4, cw), (5, .int .i64 (i : Nat)), (6, .int .i64 (k : Nat))] ∧ SH s [rowC lw 1 ((lp data i k q).map fun p => [p.1]), rowC cw 1 ((cp data i k q).map fun p => [p.1])] z) q.2.fs.length
      [(0, v), (3, lw2), (4, cw), (5, .int .i64 (i : Nat)), (6, .int .i64 ((0 : Nat) : Int))] (Sub.cons rfl (Sub.cons rfl (Sub.cons rfl (Sub.cons rfl (Sub.cons rfl (Sub.nil _)))))) ⟨0, lw2, cw, by simp, by simp, rfl, hS⟩ ?_
    clear hS hvz hK
    rintro j1 m1 z ⟨k, lw, cw, rfl, hk, rfl, hS⟩
    have hK := hS.K
    have hvz := hv.keep0 hK
    have hMq := (hM.ok q hqm).keep hK (fun _ _ _ _ h => by cases h)
    have hvf := hMq.f
    have hvfs : q.2.vf.slen = some q.2.fs.length := hvf.slenF
    repeat refine wc_seq ?_
    refine wc_region ?_
    refine w_val rfl rfl (op_pure rfl) ?_
    refine w_val rfl rfl (op_pure rfl) ?_
    refine w_val rfl rfl (op_pure rfl) ?_
    refine w_val rfl rfl (op_idxF rfl rfl (natA_cast _ _) rfl rfl rfl rfl (hvz) (by omega)) ?_
    refine w_val rfl rfl (op_fld rfl rfl rfl rfl (by decide) (Row.mk_pt hvz hq) (Nat.le_of_ble_eq_true rfl)) ?_
    refine w_val rfl rfl (op_load rfl rfl ((Row.mk_pt hvz hq).fld 3 (Nat.le_of_ble_eq_true rfl)) rfl) ?_
    refine w_val rfl rfl (op_len rfl rfl rfl rfl rfl (by assumption)) ?_
    refine w_val rfl rfl (op_pure rfl) ?_
    refine w_nil ?_
    refine then_n ?_
    repeat refine wc_seq ?_
    refine wc_condT rfl (fun h39 => ?_) (fun h39 => ?_)
    · simp only [decide_eq_true_eq] at h39
      refine wc_skip ?_
      refine then_n ?_
      repeat refine wc_seq ?_
      refine wc_block ?_
      repeat refine wc_seq ?_
      obtain ⟨f, hf⟩ : ∃ x, q.2.fs[k]? = some x := ⟨_, List.getElem?_eq_getElem (by omega)⟩
      have hfm := List.mem_of_getElem? hf
      obtain ⟨hfp, hfr, hfc⟩ := hMq.each f hfm
      have hR := Keep.refl hS.ok
      have hLb : ∀ g ∈ lw.gs, s.ctr ≤ g := fun g hg => (hS.bd 0 rfl g hg).1
      have hvlt := hv.lt hok
      have hXv : ∀ g ∈ (elemA v i).gs, g ∉ lw.gs := fun g hg h => by have := hvlt g (elemA_gs _ _ g hg); have := hLb g h; omega
      have hflt := (hM.ok q hqm).f.lt hok
      have hXf : ∀ g ∈ (elemA q.2.vf k).gs, g ∉ lw.gs := fun g hg h => by have := hflt g (elemA_gs _ _ g hg); have := hLb g h; omega
      refine wc_draw (Old z lw.gs) (by kernel_rfl) rfl ?_
      refine wo_val (fun _ => rfl) rfl rfl (op_pure rfl) ?_
      refine wo_val (fun _ => rfl) rfl rfl (op_pure rfl) ?_
      refine wo_val (fun _ => rfl) rfl rfl (op_pure rfl) ?_
      refine wo_val (fun _ => rfl) rfl rfl (op_idxF rfl rfl (natA_cast _ _) rfl rfl rfl rfl (Row.bare (hvz)) (by omega)) ?_
      refine wo_val (fun _ => rfl) rfl rfl (op_fld rfl rfl rfl rfl (by decide) (Pt.bare (Row.mk_pt hvz hq)) (Nat.le_of_ble_eq_true rfl)) ?_
      refine wo_load hR rfl rfl ((Row.mk_pt hvz hq).fld 3 (Nat.le_of_ble_eq_true rfl)) rfl (fun g hg => hXv g (fldA_gs _ _ g hg)) rfl rfl ?_
      refine wo_val (fun _ => rfl) rfl rfl (op_pure rfl) ?_
      refine wo_val (fun _ => rfl) rfl rfl (op_idxF rfl rfl (natA_cast _ _) rfl rfl rfl rfl (Row.bare (hvf)) (by omega)) ?_
      refine wo_val (fun _ => rfl) rfl rfl (op_fld rfl rfl rfl rfl (by decide) (Pt.bare (Row.mk_pt hvf hf)) (Nat.le_of_ble_eq_true rfl)) ?_
      refine wo_load hR rfl rfl ((Row.mk_pt hvf hf).fld 1 (Nat.le_of_ble_eq_true rfl)) rfl (fun g hg => hXf g (fldA_gs _ _ g hg)) rfl rfl ?_
      refine wo_val (fun _ => rfl) rfl rfl (op_pure rfl) ?_
      refine wo_val (fun _ => rfl) rfl rfl (op_pure rfl) ?_
      refine wo_val (fun _ => rfl) rfl rfl (op_idxF rfl rfl (natA_cast _ _) rfl rfl rfl rfl (Row.bare (hvz)) (by omega)) ?_
      refine wo_val (fun _ => rfl) rfl rfl (op_fld rfl rfl rfl rfl (by decide) (Pt.bare (Row.mk_pt hvz hq)) (Nat.le_of_ble_eq_true rfl)) ?_
      refine wo_load hR rfl rfl ((Row.mk_pt hvz hq).fld 3 (Nat.le_of_ble_eq_true rfl)) rfl (fun g hg => hXv g (fldA_gs _ _ g hg)) rfl rfl ?_
      refine wo_val (fun _ => rfl) rfl rfl (op_pure rfl) ?_
      refine wo_val (fun _ => rfl) rfl rfl (op_idxF rfl rfl (natA_cast _ _) rfl rfl rfl rfl (Row.bare (hvf)) (by omega)) ?_
      refine wo_val (fun _ => rfl) rfl rfl (op_fld rfl rfl rfl rfl (by decide) (Pt.bare (Row.mk_pt hvf hf)) (Nat.le_of_ble_eq_true rfl)) ?_
      refine wo_load hR rfl rfl ((Row.mk_pt hvf hf).fld 2 (Nat.le_of_ble_eq_true rfl)) rfl (fun g hg => hXf g (fldA_gs _ _ g hg)) rfl rfl ?_
      refine wo_lit [[f.2.1], [f.2.2.1]] hR rfl rfl rfl rfl rfl rfl rfl (by decide) (by decide) (fill2 hfp.leaf hfr.leaf) (by simp only [List.all_cons, List.all_nil, hfp.leaf, hfr.leaf]; rfl) rfl (hc2L hfp.leaf hfr.leaf) rfl ?_
      rintro b zb hb1 hk1 hc1 hg1
      have hS := hS.mov hk1
      have hR1 := hR.two hk1
      refine wo_append hR1 (fun g hg => .inr hg) rfl rfl rfl rfl rfl rfl rfl rfl rfl (by decide) (hS.row 0 rfl) (hS.nls 0 rfl) hb1 (by simp only [List.length_map, List.length_cons, List.length_nil, maxBytes]; have := lp_most hM i hqm k; omega) (by simp only [List.length_map, List.length_cons, List.length_nil, maxBytes]; have := lp_most hM i hqm k; omega) ?_
      rintro lw2 z hl2 hk2 hc2 hg2 hn2 -
      have hS := hS.upd 0 rfl hk2 (fun g hg => hg) (rowC lw2 1 ((lp data i (k + 1) q).map fun p => [p.1])) ⟨by rw [lp_succ hf]; exact hl2, hn2⟩ (fun g hg => by
        rcases hg2 with h | h
        · exact .inl (by have hg : g ∈ lw2.gs := hg; rwa [h] at hg)
        · have hg : g ∈ lw2.gs := hg
          have := hl2.lt hk2.ok g hg
          exact .inr ⟨by rw [h] at hg; rw [List.mem_singleton.1 hg]; exact Nat.le_refl _, this⟩)
      have hS : SH s [_, _] z := hS
      have hK := hS.K
      have hvz := hv.keep0 hK
      clear hb1 hk1 hc1 hg1 hl2 hk2 hc2 hg2 hn2 hR1
      have hvf := ((hM.ok q hqm).keep hK (fun _ _ _ _ h => by cases h)).f
      clear hR hLb hXv hXf hflt hvlt hfp hfr
      refine wo_val (fun _ => rfl) rfl rfl (op_pure rfl) ?_
      refine wd_nil ?_
      refine then_n ?_
      refine wc_region ?_
      refine w_val rfl rfl (op_pure rfl) ?_
      refine w_val rfl rfl (op_pure rfl) ?_
      refine w_val rfl rfl (op_pure rfl) ?_
      refine w_val rfl rfl (op_idxF rfl rfl (natA_cast _ _) rfl rfl rfl rfl (hvz) (by omega)) ?_
      refine w_val rfl rfl (op_fld rfl rfl rfl rfl (by decide) (Row.mk_pt hvz hq) (Nat.le_of_ble_eq_true rfl)) ?_
      refine w_val rfl rfl (op_load rfl rfl ((Row.mk_pt hvz hq).fld 3 (Nat.le_of_ble_eq_true rfl)) rfl) ?_
      refine w_val rfl rfl (op_pure rfl) ?_
      refine w_val rfl rfl (op_idxF rfl rfl (natA_cast _ _) rfl rfl rfl rfl (hvf) (by omega)) ?_
      refine w_val rfl rfl (op_fld rfl rfl rfl rfl (by decide) (Row.mk_pt hvf hf) (Nat.le_of_ble_eq_true rfl)) ?_
      refine w_val rfl rfl (op_load rfl rfl ((Row.mk_pt hvf hf).fld 5 (Nat.le_of_ble_eq_true rfl)) rfl) ?_
      refine ws_lit1 (c := [f.2.2.2]) hS rfl rfl rfl rfl rfl rfl rfl rfl (by decide) (by decide) (fill1 hfc.leaf) (by simp only [List.all_cons, List.all_nil, hfc.leaf]; rfl) rfl ?_
      rintro b z hS hk1 hb1
      refine ws_append 1 hS rfl rfl rfl rfl rfl rfl rfl rfl rfl rfl rfl (by decide) hb1 (by simp only [List.length_map, List.length_cons, List.length_nil, maxBytes]; have := cp_most hM i hqm k; omega) (by simp only [List.length_map, List.length_cons, List.length_nil, maxBytes]; have := cp_most hM i hqm k; omega) ?_
      rintro cw2 z hS
      have hS : SH s [rowC lw2 1 ((lp data i (k + 1) q).map fun p => [p.1]), rowC cw2 1 ((cp data i (k + 1) q).map fun p => [p.1])] z := by rw [cp_succ hf]; exact hS
      clear hb1 hk1 hfc
      refine w_val rfl rfl (op_pure rfl) ?_
      refine w_nil ?_
      refine out_n ?_
      refine then_n ?_
      refine wc_region ?_
      refine w_val rfl rfl (op_pure rfl) ?_
      refine w_val rfl rfl (op_add rfl rfl (by unfold In64; omega)) ?_
      refine w_val rfl rfl (op_pure rfl) ?_
      refine w_nil ?_
      exact round_n _ _ (by omega) (Sub.cons rfl (Sub.cons rfl (Sub.cons rfl (Sub.cons rfl (Sub.cons rfl (Sub.nil _)))))) ⟨k + 1, lw2, cw2, rfl, by omega, rfl, hS⟩
    simp only [decide_eq_false_iff_not] at h39
    obtain rfl : k = q.2.fs.length := by omega
    rw [lp_all hq, cp_all hq] at hS
    refine wc_exit ?_
    repeat first | refine then_x ?_ | refine round_x ?_ | refine cut_x ?_ | refine out_x' (by decide) ?_
    refine out_x ?_
    refine out_n ?_
    refine then_n ?_
    refine wc_region ?_
    refine w_val rfl rfl (op_pure rfl) ?_
    refine w_val rfl rfl (op_add rfl rfl (by unfold In64; omega)) ?_
    refine w_val rfl rfl (op_pure rfl) ?_
    refine w_nil ?_
    exact round_n _ _ (by omega) (Sub.cons rfl (Sub.cons rfl (Sub.cons rfl (Sub.cons rfl (Sub.nil _))))) ⟨i + 1, lw, cw, rfl, by omega, rfl, hS⟩
  simp only [decide_eq_false_iff_not] at h16
  obtain rfl : i = data.length := by omega
  rw [List.take_length] at hS
  refine wc_exit ?_
  repeat first | refine then_x ?_ | refine round_x ?_ | refine cut_x ?_ | refine out_x' (by decide) ?_
  refine out_x ?_
  refine then_n ?_
  repeat refine wc_seq ?_
  have hMz := hM.keep hK (fun _ _ _ _ _ _ h => by cases h)
  have hown : ∀ q ∈ data, ∀ w ∈ q.2.all, ∀ g ∈ w.gs, g < s.ctr := fun q hq w hw => all_lt (hM.ok q hq) hok hw
  have hGlt : ∀ g ∈ allG data, g < s.ctr := fun g hg => by
    obtain ⟨q, hq, hg⟩ := List.mem_flatMap.1 hg
    obtain ⟨w, hw, hg⟩ := List.mem_flatMap.1 hg
    exact hown q hq w hw g hg
  have hlG : ∀ g ∈ lw.gs, g ∉ (data.flatMap labD).flatMap (·.1.gs) := fun g hg h => by have := hGlt g (allG_lab g h); have := (hS.bd 0 rfl g hg).1; omega
  have hcG1 : ∀ g ∈ cw.gs, g ∉ (data.flatMap labD).flatMap (·.1.gs) := fun g hg h => by have := hGlt g (allG_lab g h); have := (hS.bd 1 rfl g hg).1; omega
  have hcG2 : ∀ g ∈ cw.gs, g ∉ (data.flatMap codD).flatMap (·.1.gs) := fun g hg h => by have := hGlt g (allG_cod g h); have := (hS.bd 1 rfl g hg).1; omega
  refine wc_region ?_
  refine w_val rfl rfl (op_pure rfl) ?_
  refine w_call rfl rfl (op_call rfl rfl rfl rfl) (apartLabels_ok (data := data.flatMap labD) hK.ok (hS.row 0 rfl) hlG (fun p hp => by obtain ⟨q, hq, hp⟩ := List.mem_flatMap.1 hp; exact labD_row (hMz.ok q hq) hp) (by rw [map_flat]; simp only [labD_fst]; exact hMz.pw labs_sub) (fun p hp => by obtain ⟨q, hq, hp⟩ := List.mem_flatMap.1 hp; exact (hMz.ok q hq).nil _ (labs_all (labD_mem hp)))
    (by have := lab_most hM data.length; rw [List.take_length] at this; omega) (fun p hp => by obtain ⟨q, hq, hp⟩ := List.mem_flatMap.1 hp; exact labD_small (hMz.ok q hq) (hM.small q hq).1 hp)) ?_
  rintro _ z1 ⟨hk1, rfl⟩
  have hcr : ∀ p ∈ data.flatMap codD, Row z1.h 2 p.1 (p.2.map inC) := fun p hp => by
    have := lab_cod_dis hM hp
    obtain ⟨q, hq, hp⟩ := List.mem_flatMap.1 hp
    exact (codD_row (hMz.ok q hq) hp).keep hk1 this
  have hcw := (hS.row 1 rfl).keep hk1 hcG1
  have hK1 : Keep (allG data) s z1 := (hK.more fun g hg => by cases hg).trans hk1 fun g hg => .inl (allG_lab g hg)
  refine w_val rfl rfl (op_pure rfl) ?_
  refine w_val rfl rfl (op_pure rfl) ?_
  refine w_val rfl rfl (op_pure rfl) ?_
  refine w_call rfl rfl (op_call rfl rfl rfl rfl) (apartCode_ok (data := data.flatMap codD) hK1.ok hcw hcG2 hcr (by rw [map_flat]; simp only [codD_fst]; exact hMz.pw cods_sub) (fun p hp => by obtain ⟨q, hq, hp⟩ := List.mem_flatMap.1 hp; exact (hMz.ok q hq).nil _ (cods_all (codD_mem hp)))
    (by have := cod_most hM data.length; rw [List.take_length] at this; omega) (fun p hp => by obtain ⟨q, hq, hp⟩ := List.mem_flatMap.1 hp; exact codD_small (hMz.ok q hq) (hM.small q hq).1 hp)) ?_
  rintro _ z2 ⟨hk2, rfl⟩
  have hK : Keep (allG data) s z2 := hK1.trans hk2 fun g hg => .inl (allG_cod g hg)
  have hF : RowsI z2.h 6 id (data.map fnD) (MarkG mkFn 0 0) := by
    intro q p hp
    rw [List.getElem?_map] at hp
    cases e : data[q]? with
    | none => rw [e] at hp; cases hp
    | some x =>
      rw [e] at hp
      cases hp
      have hxm := List.mem_of_getElem? e
      refine ⟨_, rfl, ?_, MarkG.zero _ _ _⟩
      rw [List.map_id]
      refine ((hMz.ok x hxm).f.keep hk1 fun g hg h => ?_).keep hk2 fun g hg h => ?_
      · exact fn_lab hM hxm g hg h
      · exact fn_cod hM hxm g hg h
  have hA : RowsI z2.h 2 id (data.map arD) (MarkG mkAr 0 0) := by
    intro q p hp
    rw [List.getElem?_map] at hp
    cases e : data[q]? with
    | none => rw [e] at hp; cases hp
    | some x =>
      rw [e] at hp
      cases hp
      have hxm := List.mem_of_getElem? e
      refine ⟨_, rfl, ?_, MarkG.zero _ _ _⟩
      rw [List.map_id]
      refine ((hMz.ok x hxm).a.keep hk1 fun g hg h => ?_).keep hk2 fun g hg h => ?_
      · exact ar_lab hM hxm g hg h
      · exact ar_cod hM hxm g hg h
  clear hcr hcw hK1 hk1 hk2 hMz hlG hcG1 hcG2 hS hvz
  refine w_val rfl rfl (op_pure rfl) ?_
  refine w_val rfl rfl (op_pure rfl) ?_
  refine w_nil ?_
  refine then_n ?_
  repeat refine wc_seq ?_
  refine wc_cond_f rfl ?_
  refine wc_skip ?_
  refine then_n ?_
  repeat refine wc_seq ?_
  refine wc_region ?_
  refine w_val rfl rfl (op_pure rfl) ?_
  refine w_nil ?_
  refine then_n ?_
  repeat refine wc_seq ?_
  refine wc_block ?_
  refine wc_loop_at (fun j m z => ∃ i : Nat, j = data.length - i ∧ i ≤ data.length ∧ m = [(0, v), (7, .int .i64 (i : Nat))] ∧ Keep (allG data) s z ∧ RowsI z.h 6 id (data.map fnD) (MarkG mkFn i 0) ∧ RowsI z.h 2 id (data.map arD) (MarkG mkAr i 0)) data.length
    [(0, v), (7, .int .i64 ((0 : Nat) : Int))] (Sub.cons rfl (Sub.cons rfl (Sub.nil _))) ⟨0, by simp, by simp, rfl, hK, hF, hA⟩ ?_
  clear hK hF hA
  rintro j m z ⟨i, rfl, hi, rfl, hK, hF, hA⟩
  have hvz := hv.keep hK hvX
  repeat refine wc_seq ?_
  refine wc_region ?_
  refine w_val rfl rfl (op_pure rfl) ?_
  refine w_val rfl rfl (op_pure rfl) ?_
  refine w_val rfl rfl (op_len rfl rfl rfl rfl rfl (by assumption)) ?_
  refine w_val rfl rfl (op_pure rfl) ?_
  refine w_nil ?_
  refine then_n ?_
  repeat refine wc_seq ?_
  refine wc_condT rfl (fun h86 => ?_) (fun h86 => ?_)
  · simp only [decide_eq_true_eq] at h86
    refine wc_skip ?_
    refine then_n ?_
    repeat refine wc_seq ?_
    refine wc_block ?_
    repeat refine wc_seq ?_
    obtain ⟨q, hq⟩ : ∃ x, data[i]? = some x := ⟨_, List.getElem?_eq_getElem (by omega)⟩
    have hqm := List.mem_of_getElem? hq
    have hfl := hM.fsl hqm
    have hal := (hM.small q hqm).1.2.1
    have hpF : (data.map fnD)[i]? = some (fnD q) := by rw [List.getElem?_map, hq]; rfl
    have hpA : (data.map arD)[i]? = some (arD q) := by rw [List.getElem?_map, hq]; rfl
    have hql : (fnD q).2.length = q.2.fs.length := by simp [fnD]
    have hqa : (arD q).2.length = q.1.arrays.length := by simp [arD]
    refine wc_region ?_
    refine w_val rfl rfl (op_pure rfl) ?_
    refine w_nil ?_
    refine then_n ?_
    repeat refine wc_seq ?_
    refine wc_block ?_
    refine wc_loop_at (fun j m z => ∃ k : Nat, j = q.2.fs.length - k ∧ k ≤ q.2.fs.length ∧ m = [(0, v), (7, .int .i64 (i : Nat)), (8, .int .i64 (k : Nat))] ∧ Keep (allG data) s z ∧ RowsI z.h 6 id (data.map fnD) (MarkG mkFn i k) ∧ RowsI z.h 2 id (data.map arD) (MarkG mkAr i 0)) q.2.fs.length
      [(0, v), (7, .int .i64 (i : Nat)), (8, .int .i64 ((0 : Nat) : Int))] (Sub.cons rfl (Sub.cons rfl (Sub.cons rfl (Sub.nil _)))) ⟨0, by simp, by simp, rfl, hK, hF, hA⟩ ?_
    clear hK hF hA hvz
    rintro j1 m1 z ⟨k, rfl, hk, rfl, hK, hF, hA⟩
    have hvz := hv.keep hK hvX
    obtain ⟨xs, hxl, hxr, hxG⟩ := hF i _ hpF
    have hvfs : q.2.vf.slen = some q.2.fs.length := hxr.slenF.trans (congrArg some (hxl.trans hql))
    have hxl' : xs.length = q.2.fs.length := hxl.trans hql
    repeat refine wc_seq ?_
    refine wc_region ?_
    refine w_val rfl rfl (op_pure rfl) ?_
    refine w_val rfl rfl (op_pure rfl) ?_
    refine w_val rfl rfl (op_pure rfl) ?_
    refine w_val rfl rfl (op_idxF rfl rfl (natA_cast _ _) rfl rfl rfl rfl (hvz) (by omega)) ?_
    refine w_val rfl rfl (op_fld rfl rfl rfl rfl (by decide) (Row.mk_pt hvz hq) (Nat.le_of_ble_eq_true rfl)) ?_
    refine w_val rfl rfl (op_load rfl rfl ((Row.mk_pt hvz hq).fld 3 (Nat.le_of_ble_eq_true rfl)) rfl) ?_
    refine w_val rfl rfl (op_len rfl rfl rfl rfl rfl (by assumption)) ?_
    refine w_val rfl rfl (op_pure rfl) ?_
    refine w_nil ?_
    refine then_n ?_
    repeat refine wc_seq ?_
    refine wc_condT rfl (fun h96 => ?_) (fun h96 => ?_)
    · simp only [decide_eq_true_eq] at h96
      refine wc_skip ?_
      refine then_n ?_
      repeat refine wc_seq ?_
      refine wc_block ?_
      refine wc_region ?_
      refine w_val rfl rfl (op_pure rfl) ?_
      refine w_val rfl rfl (op_pure rfl) ?_
      refine w_val rfl rfl (op_idxF rfl rfl (natA_cast _ _) rfl rfl rfl rfl (hvz) (by omega)) ?_
      refine w_val rfl rfl (op_fld rfl rfl rfl rfl (by decide) (Row.mk_pt hvz hq) (Nat.le_of_ble_eq_true rfl)) ?_
      refine w_val rfl rfl (op_load rfl rfl ((Row.mk_pt hvz hq).fld 3 (Nat.le_of_ble_eq_true rfl)) rfl) ?_
      refine w_val rfl rfl (op_pure rfl) ?_
      refine w_val rfl rfl (op_pure rfl) ?_
      refine w_val rfl rfl (op_mul rfl rfl (by unfold In64; omega)) ?_
      refine w_val rfl rfl (op_pure rfl) ?_
      refine w_val rfl rfl (op_add rfl rfl (by unfold In64; omega)) ?_
      refine w_val rfl rfl (op_pure rfl) ?_
      refine w_val rfl rfl (op_idxF rfl rfl (natA_cast _ _) rfl rfl rfl rfl (hxr) (by omega)) ?_
      refine w_store_row rfl rfl rfl rfl rfl rfl rfl hK.ok hxr (fun e => by have hxr' := hxr; have := (hM.ok q hqm).nil _ vf_all e; rw [show (fnD q).1 = q.2.vf from rfl, this] at hxr'; have h0 := congrArg List.length (show xs.map id = [] from hxr'); rw [List.length_map, List.length_nil] at h0; omega) (by rw [List.length_map]; omega) ?_
      intro zz hx2 hk2 hc2
      have hA := hA.keep hk2 (fun p hp g hg h => by obtain ⟨q', hq', rfl⟩ := List.mem_map.1 hp; exact fn_ar hM hqm hq' g h hg)
      have hF := hF.upd (fn_pw hM) hpF hk2 (xs := xs.set k (mkFn i k)) (G' := MarkG mkFn i (k + 1)) (by rw [List.map_set]; exact hx2) (by rw [List.length_set]; exact hxl) (hxG.step (by omega)) (fun q xs hq h => h.other hq)
      have hK := hK.trans hk2 (fun g hg => .inl (allG_mem hqm vf_all hg))
      clear hx2 hk2 hc2 hxr hxG
      refine w_nil ?_
      refine out_n ?_
      refine then_n ?_
      refine wc_region ?_
      refine w_val rfl rfl (op_pure rfl) ?_
      refine w_val rfl rfl (op_add rfl rfl (by unfold In64; omega)) ?_
      refine w_val rfl rfl (op_pure rfl) ?_
      refine w_nil ?_
      exact round_n _ _ (by omega) (Sub.cons rfl (Sub.cons rfl (Sub.cons rfl (Sub.nil _)))) ⟨k + 1, rfl, by omega, rfl, hK, hF, hA⟩
    simp only [decide_eq_false_iff_not] at h96
    obtain rfl : k = q.2.fs.length := by omega
    replace hF := hF.mono (G' := MarkG mkFn (i + 1) 0) (fun q' p' xs hq' hx h => h.next fun e => by subst e; rw [hpF] at hq'; cases hq'; omega)
    clear hxr hxG hvfs
    refine wc_exit ?_
    repeat first | refine then_x ?_ | refine round_x ?_ | refine cut_x ?_ | refine out_x' (by decide) ?_
    refine out_x ?_
    refine then_n ?_
    repeat refine wc_seq ?_
    refine wc_region ?_
    refine w_val rfl rfl (op_pure rfl) ?_
    refine w_nil ?_
    refine then_n ?_
    refine wc_block ?_
    refine wc_loop_at (fun j m z => ∃ k : Nat, j = q.1.arrays.length - k ∧ k ≤ q.1.arrays.length ∧ m = [(0, v), (7, .int .i64 (i : Nat)), (9, .int .i64 (k : Nat))] ∧ Keep (allG data) s z ∧ RowsI z.h 6 id (data.map fnD) (MarkG mkFn (i + 1) 0) ∧ RowsI z.h 2 id (data.map arD) (MarkG mkAr i k)) q.1.arrays.length
      [(0, v), (7, .int .i64 (i : Nat)), (9, .int .i64 ((0 : Nat) : Int))] (Sub.cons rfl (Sub.cons rfl (Sub.cons rfl (Sub.nil _)))) ⟨0, by simp, by simp, rfl, hK, hF, hA⟩ ?_
    clear hK hF hA hvz
    rintro j1 m1 z ⟨k, rfl, hk, rfl, hK, hF, hA⟩
    have hvz := hv.keep hK hvX
    obtain ⟨xs, hxl, hxr, hxG⟩ := hA i _ hpA
    have hvas : q.2.va.slen = some q.1.arrays.length := hxr.slenF.trans (congrArg some (hxl.trans hqa))
    have hxl' : xs.length = q.1.arrays.length := hxl.trans hqa
    repeat refine wc_seq ?_
    refine wc_region ?_
    refine w_val rfl rfl (op_pure rfl) ?_
    refine w_val rfl rfl (op_pure rfl) ?_
    refine w_val rfl rfl (op_pure rfl) ?_
    refine w_val rfl rfl (op_idxF rfl rfl (natA_cast _ _) rfl rfl rfl rfl (hvz) (by omega)) ?_
    refine w_val rfl rfl (op_fld rfl rfl rfl rfl (by decide) (Row.mk_pt hvz hq) (Nat.le_of_ble_eq_true rfl)) ?_
    refine w_val rfl rfl (op_load rfl rfl ((Row.mk_pt hvz hq).fld 1 (Nat.le_of_ble_eq_true rfl)) rfl) ?_
    refine w_val rfl rfl (op_len rfl rfl rfl rfl rfl (by assumption)) ?_
    refine w_val rfl rfl (op_pure rfl) ?_
    refine w_nil ?_
    refine then_n ?_
    repeat refine wc_seq ?_
    refine wc_condT rfl (fun h118 => ?_) (fun h118 => ?_)
    · simp only [decide_eq_true_eq] at h118
      refine wc_skip ?_
      refine then_n ?_
      repeat refine wc_seq ?_
      refine wc_block ?_
      refine wc_region ?_
      refine w_val rfl rfl (op_pure rfl) ?_
      refine w_val rfl rfl (op_pure rfl) ?_
      refine w_val rfl rfl (op_idxF rfl rfl (natA_cast _ _) rfl rfl rfl rfl (hvz) (by omega)) ?_
      refine w_val rfl rfl (op_fld rfl rfl rfl rfl (by decide) (Row.mk_pt hvz hq) (Nat.le_of_ble_eq_true rfl)) ?_
      refine w_val rfl rfl (op_load rfl rfl ((Row.mk_pt hvz hq).fld 1 (Nat.le_of_ble_eq_true rfl)) rfl) ?_
      refine w_val rfl rfl (op_pure rfl) ?_
      refine w_val rfl rfl (op_pure rfl) ?_
      refine w_val rfl rfl (op_mul rfl rfl (by unfold In64; omega)) ?_
      refine w_val rfl rfl (op_pure rfl) ?_
      refine w_val rfl rfl (op_add rfl rfl (by unfold In64; omega)) ?_
      refine w_val rfl rfl (op_pure rfl) ?_
      refine w_val rfl rfl (op_idxF rfl rfl (natA_cast _ _) rfl rfl rfl rfl (hxr) (by omega)) ?_
      refine w_store_row rfl rfl rfl rfl rfl rfl rfl hK.ok hxr (fun e => by have hxr' := hxr; have := (hM.ok q hqm).nil _ va_all e; rw [show (arD q).1 = q.2.va from rfl, this] at hxr'; have h0 := congrArg List.length (show xs.map id = [] from hxr'); rw [List.length_map, List.length_nil] at h0; omega) (by rw [List.length_map]; omega) ?_
      intro zz hx2 hk2 hc2
      have hF := hF.keep hk2 (fun p hp g hg h => by obtain ⟨q', hq', rfl⟩ := List.mem_map.1 hp; exact fn_ar hM hq' hqm g hg h)
      have hA := hA.upd (ar_pw hM) hpA hk2 (xs := xs.set k (mkAr i k)) (G' := MarkG mkAr i (k + 1)) (by rw [List.map_set]; exact hx2) (by rw [List.length_set]; exact hxl) (hxG.step (by omega)) (fun q xs hq h => h.other hq)
      have hK := hK.trans hk2 (fun g hg => .inl (allG_mem hqm va_all hg))
      clear hx2 hk2 hc2 hxr hxG
      refine w_nil ?_
      refine out_n ?_
      refine then_n ?_
      refine wc_region ?_
      refine w_val rfl rfl (op_pure rfl) ?_
      refine w_val rfl rfl (op_add rfl rfl (by unfold In64; omega)) ?_
      refine w_val rfl rfl (op_pure rfl) ?_
      refine w_nil ?_
      exact round_n _ _ (by omega) (Sub.cons rfl (Sub.cons rfl (Sub.cons rfl (Sub.nil _)))) ⟨k + 1, rfl, by omega, rfl, hK, hF, hA⟩
    simp only [decide_eq_false_iff_not] at h118
    obtain rfl : k = q.1.arrays.length := by omega
    replace hA := hA.mono (G' := MarkG mkAr (i + 1) 0) (fun q' p' xs hq' hx h => h.next fun e => by subst e; rw [hpA] at hq'; cases hq'; omega)
    clear hxr hxG hvas
    refine wc_exit ?_
    repeat first | refine then_x ?_ | refine round_x ?_ | refine cut_x ?_ | refine out_x' (by decide) ?_
    refine out_x ?_
    refine out_n ?_
    refine then_n ?_
    refine wc_region ?_
    refine w_val rfl rfl (op_pure rfl) ?_
    refine w_val rfl rfl (op_add rfl rfl (by unfold In64; omega)) ?_
    refine w_val rfl rfl (op_pure rfl) ?_
    refine w_nil ?_
    exact round_n _ _ (by omega) (Sub.cons rfl (Sub.cons rfl (Sub.nil _))) ⟨i + 1, rfl, by omega, rfl, hK, hF, hA⟩
  simp only [decide_eq_false_iff_not] at h86
  obtain rfl : i = data.length := by omega
  refine wc_exit ?_
  repeat first | refine then_x ?_ | refine round_x ?_ | refine cut_x ?_ | refine out_x' (by decide) ?_
  refine out_x ?_
  refine then_n ?_
  repeat refine wc_seq ?_
  replace hF := hF.mono (G' := FullG mkFn) (fun q p xs hq _ h => h.1 (by have := (List.getElem?_eq_some_iff.1 hq).1; rw [List.length_map] at this; exact this))
  replace hA := hA.mono (G' := FullG mkAr) (fun q p xs hq _ h => h.1 (by have := (List.getElem?_eq_some_iff.1 hq).1; rw [List.length_map] at this; exact this))
  refine wc_region ?_
  refine w_val rfl rfl (op_pure rfl) ?_
  refine w_nil ?_
  refine then_n ?_
  repeat refine wc_seq ?_
  refine wc_block ?_
  refine wc_loop_at (fun j m z' => ∃ i : Nat, j = data.length - i ∧ i ≤ data.length ∧ m = [(0, v), (10, .int .i64 (i : Nat))] ∧ z = z') data.length
    [(0, v), (10, .int .i64 ((0 : Nat) : Int))] (Sub.cons rfl (Sub.cons rfl (Sub.nil _))) ⟨0, by simp, by simp, rfl, rfl⟩ ?_
  rintro j m _ ⟨i, rfl, hi, rfl, rfl⟩
  repeat refine wc_seq ?_
  refine wc_region ?_
  refine w_val rfl rfl (op_pure rfl) ?_
  refine w_val rfl rfl (op_pure rfl) ?_
  refine w_val rfl rfl (op_len rfl rfl rfl rfl rfl (by assumption)) ?_
  refine w_val rfl rfl (op_pure rfl) ?_
  refine w_nil ?_
  refine then_n ?_
  repeat refine wc_seq ?_
  refine wc_condT rfl (fun h136 => ?_) (fun h136 => ?_)
  · simp only [decide_eq_true_eq] at h136
    refine wc_skip ?_
    refine then_n ?_
    repeat refine wc_seq ?_
    refine wc_block ?_
    repeat refine wc_seq ?_
    obtain ⟨q, hq⟩ : ∃ x, data[i]? = some x := ⟨_, List.getElem?_eq_getElem (by omega)⟩
    have hqm := List.mem_of_getElem? hq
    have hfl := hM.fsl hqm
    have hal := (hM.small q hqm).1.2.1
    have hpF : (data.map fnD)[i]? = some (fnD q) := by rw [List.getElem?_map, hq]; rfl
    have hpA : (data.map arD)[i]? = some (arD q) := by rw [List.getElem?_map, hq]; rfl
    have hql : (fnD q).2.length = q.2.fs.length := by simp [fnD]
    have hqa : (arD q).2.length = q.1.arrays.length := by simp [arD]
    obtain ⟨xs, hxl, hxr, hxG⟩ := hF i _ hpF
    unfold FullG at hxG
    rw [hxl, hql] at hxG
    rw [hxG] at hxr
    obtain ⟨ys, hyl, hyr, hyG⟩ := hA i _ hpA
    unfold FullG at hyG
    rw [hyl, hqa] at hyG
    rw [hyG] at hyr
    have hvfs : q.2.vf.slen = some q.2.fs.length := hxr.slenF.trans (by rw [fullM_len])
    have hvas : q.2.va.slen = some q.1.arrays.length := hyr.slenF.trans (by rw [fullM_len])
    have hx1 : (fullM mkFn i q.2.fs.length).length = q.2.fs.length := fullM_len ..
    have hy1 : (fullM mkAr i q.1.arrays.length).length = q.1.arrays.length := fullM_len ..
    refine wc_region ?_
    refine w_val rfl rfl (op_pure rfl) ?_
    refine w_nil ?_
    refine then_n ?_
    repeat refine wc_seq ?_
    refine wc_block ?_
    refine wc_loop_at (fun j m z' => ∃ k : Nat, j = q.2.fs.length - k ∧ k ≤ q.2.fs.length ∧ m = [(0, v), (10, .int .i64 (i : Nat)), (11, .int .i64 (k : Nat))] ∧ z = z') q.2.fs.length
      [(0, v), (10, .int .i64 (i : Nat)), (11, .int .i64 ((0 : Nat) : Int))] (Sub.cons rfl (Sub.cons rfl (Sub.cons rfl (Sub.nil _)))) ⟨0, by simp, by simp, rfl, rfl⟩ ?_
    rintro j1 m1 _ ⟨k, rfl, hk, rfl, rfl⟩
    repeat refine wc_seq ?_
    refine wc_region ?_
    refine w_val rfl rfl (op_pure rfl) ?_
    refine w_val rfl rfl (op_pure rfl) ?_
    refine w_val rfl rfl (op_pure rfl) ?_
    refine w_val rfl rfl (op_idxF rfl rfl (natA_cast _ _) rfl rfl rfl rfl (hvz) (by omega)) ?_
    refine w_val rfl rfl (op_fld rfl rfl rfl rfl (by decide) (Row.mk_pt hvz hq) (Nat.le_of_ble_eq_true rfl)) ?_
    refine w_val rfl rfl (op_load rfl rfl ((Row.mk_pt hvz hq).fld 3 (Nat.le_of_ble_eq_true rfl)) rfl) ?_
    refine w_val rfl rfl (op_len rfl rfl rfl rfl rfl (by assumption)) ?_
    refine w_val rfl rfl (op_pure rfl) ?_
    refine w_nil ?_
    refine then_n ?_
    repeat refine wc_seq ?_
    refine wc_condT rfl (fun h146 => ?_) (fun h146 => ?_)
    · simp only [decide_eq_true_eq] at h146
      refine wc_skip ?_
      refine then_n ?_
      repeat refine wc_seq ?_
      refine wc_block ?_
      repeat refine wc_seq ?_
      have hxk : (fullM mkFn i q.2.fs.length)[k]? = some (mkFn i k) := fullM_get _ (by omega)
      refine wc_region ?_
      refine w_val rfl rfl (op_pure rfl) ?_
      refine w_val rfl rfl (op_pure rfl) ?_
      refine w_val rfl rfl (op_idxF rfl rfl (natA_cast _ _) rfl rfl rfl rfl (hvz) (by omega)) ?_
      refine w_val rfl rfl (op_fld rfl rfl rfl rfl (by decide) (Row.mk_pt hvz hq) (Nat.le_of_ble_eq_true rfl)) ?_
      refine w_val rfl rfl (op_load rfl rfl ((Row.mk_pt hvz hq).fld 3 (Nat.le_of_ble_eq_true rfl)) rfl) ?_
      refine w_val rfl rfl (op_pure rfl) ?_
      refine w_val rfl rfl (op_idxF rfl rfl (natA_cast _ _) rfl rfl rfl rfl (hxr) (by omega)) ?_
      refine w_val rfl rfl (op_fld rfl rfl rfl rfl (by decide) (Row.mk_pt hxr hxk) (Nat.le_of_ble_eq_true rfl)) ?_
      refine w_val rfl rfl (op_load rfl rfl ((Row.mk_pt hxr hxk).fld 4 (Nat.le_of_ble_eq_true rfl)) rfl) ?_
      refine w_val rfl rfl (op_pure rfl) ?_
      refine w_val rfl rfl (op_mul rfl rfl (by unfold In64; omega)) ?_
      refine w_val rfl rfl (op_pure rfl) ?_
      refine w_val rfl rfl (op_add rfl rfl (by unfold In64; omega)) ?_
      refine w_val rfl rfl (op_int (v := .bool false) rfl rfl (by decide) (by simp [intA])) ?_
      refine w_nil ?_
      refine then_n ?_
      refine wc_condT rfl (fun h162 => ?_) (fun h162 => ?_)
      · cases h162
      skip
      refine wc_skip ?_
      refine out_n ?_
      refine then_n ?_
      refine wc_region ?_
      refine w_val rfl rfl (op_pure rfl) ?_
      refine w_val rfl rfl (op_add rfl rfl (by unfold In64; omega)) ?_
      refine w_val rfl rfl (op_pure rfl) ?_
      refine w_nil ?_
      exact round_n _ _ (by omega) (Sub.cons rfl (Sub.cons rfl (Sub.cons rfl (Sub.nil _)))) ⟨k + 1, rfl, by omega, rfl, rfl⟩
    simp only [decide_eq_false_iff_not] at h146
    obtain rfl : k = q.2.fs.length := by omega
    refine wc_exit ?_
    repeat first | refine then_x ?_ | refine round_x ?_ | refine cut_x ?_ | refine out_x' (by decide) ?_
    refine out_x ?_
    refine then_n ?_
    repeat refine wc_seq ?_
    refine wc_region ?_
    refine w_val rfl rfl (op_pure rfl) ?_
    refine w_nil ?_
    refine then_n ?_
    refine wc_block ?_
    refine wc_loop_at (fun j m z' => ∃ k : Nat, j = q.1.arrays.length - k ∧ k ≤ q.1.arrays.length ∧ m = [(0, v), (10, .int .i64 (i : Nat)), (12, .int .i64 (k : Nat))] ∧ z = z') q.1.arrays.length
      [(0, v), (10, .int .i64 (i : Nat)), (12, .int .i64 ((0 : Nat) : Int))] (Sub.cons rfl (Sub.cons rfl (Sub.cons rfl (Sub.nil _)))) ⟨0, by simp, by simp, rfl, rfl⟩ ?_
    rintro j1 m1 _ ⟨k, rfl, hk, rfl, rfl⟩
    repeat refine wc_seq ?_
    refine wc_region ?_
    refine w_val rfl rfl (op_pure rfl) ?_
    refine w_val rfl rfl (op_pure rfl) ?_
    refine w_val rfl rfl (op_pure rfl) ?_
    refine w_val rfl rfl (op_idxF rfl rfl (natA_cast _ _) rfl rfl rfl rfl (hvz) (by omega)) ?_
    refine w_val rfl rfl (op_fld rfl rfl rfl rfl (by decide) (Row.mk_pt hvz hq) (Nat.le_of_ble_eq_true rfl)) ?_
    refine w_val rfl rfl (op_load rfl rfl ((Row.mk_pt hvz hq).fld 1 (Nat.le_of_ble_eq_true rfl)) rfl) ?_
    refine w_val rfl rfl (op_len rfl rfl rfl rfl rfl (by assumption)) ?_
    refine w_val rfl rfl (op_pure rfl) ?_
    refine w_nil ?_
    refine then_n ?_
    repeat refine wc_seq ?_
    refine wc_condT rfl (fun h170 => ?_) (fun h170 => ?_)
    · simp only [decide_eq_true_eq] at h170
      refine wc_skip ?_
      refine then_n ?_
      repeat refine wc_seq ?_
      refine wc_block ?_
      repeat refine wc_seq ?_
      have hxk : (fullM mkAr i q.1.arrays.length)[k]? = some (mkAr i k) := fullM_get _ (by omega)
      refine wc_region ?_
      refine w_val rfl rfl (op_pure rfl) ?_
      refine w_val rfl rfl (op_pure rfl) ?_
      refine w_val rfl rfl (op_idxF rfl rfl (natA_cast _ _) rfl rfl rfl rfl (hvz) (by omega)) ?_
      refine w_val rfl rfl (op_fld rfl rfl rfl rfl (by decide) (Row.mk_pt hvz hq) (Nat.le_of_ble_eq_true rfl)) ?_
      refine w_val rfl rfl (op_load rfl rfl ((Row.mk_pt hvz hq).fld 1 (Nat.le_of_ble_eq_true rfl)) rfl) ?_
      refine w_val rfl rfl (op_pure rfl) ?_
      refine w_val rfl rfl (op_idxF rfl rfl (natA_cast _ _) rfl rfl rfl rfl (hyr) (by omega)) ?_
      refine w_val rfl rfl (op_fld rfl rfl rfl rfl (by decide) (Row.mk_pt hyr hxk) (Nat.le_of_ble_eq_true rfl)) ?_
      refine w_val rfl rfl (op_load rfl rfl ((Row.mk_pt hyr hxk).fld 0 (Nat.le_of_ble_eq_true rfl)) rfl) ?_
      refine w_val rfl rfl (op_pure rfl) ?_
      refine w_val rfl rfl (op_mul rfl rfl (by unfold In64; omega)) ?_
      refine w_val rfl rfl (op_pure rfl) ?_
      refine w_val rfl rfl (op_add rfl rfl (by unfold In64; omega)) ?_
      refine w_val rfl rfl (op_int (v := .bool false) rfl rfl (by decide) (by simp [intA])) ?_
      refine w_nil ?_
      refine then_n ?_
      refine wc_condT rfl (fun h186 => ?_) (fun h186 => ?_)
      · cases h186
      skip
      refine wc_skip ?_
      refine out_n ?_
      refine then_n ?_
      refine wc_region ?_
      refine w_val rfl rfl (op_pure rfl) ?_
      refine w_val rfl rfl (op_add rfl rfl (by unfold In64; omega)) ?_
      refine w_val rfl rfl (op_pure rfl) ?_
      refine w_nil ?_
      exact round_n _ _ (by omega) (Sub.cons rfl (Sub.cons rfl (Sub.cons rfl (Sub.nil _)))) ⟨k + 1, rfl, by omega, rfl, rfl⟩
    simp only [decide_eq_false_iff_not] at h170
    obtain rfl : k = q.1.arrays.length := by omega
    refine wc_exit ?_
    repeat first | refine then_x ?_ | refine round_x ?_ | refine cut_x ?_ | refine out_x' (by decide) ?_
    refine out_x ?_
    refine out_n ?_
    refine then_n ?_
    refine wc_region ?_
    refine w_val rfl rfl (op_pure rfl) ?_
    refine w_val rfl rfl (op_add rfl rfl (by unfold In64; omega)) ?_
    refine w_val rfl rfl (op_pure rfl) ?_
    refine w_nil ?_
    exact round_n _ _ (by omega) (Sub.cons rfl (Sub.cons rfl (Sub.nil _))) ⟨i + 1, rfl, by omega, rfl, rfl⟩
  simp only [decide_eq_false_iff_not] at h136
  obtain rfl : i = data.length := by omega
  refine wc_exit ?_
  repeat first | refine then_x ?_ | refine round_x ?_ | refine cut_x ?_ | refine out_x' (by decide) ?_
  refine out_x ?_
  refine then_n ?_
  repeat refine wc_seq ?_
  refine wc_region ?_
  refine w_val rfl rfl (op_pure rfl) ?_
  refine w_nil ?_
  refine then_n ?_
  refine wc_ret ?_
  repeat first | refine then_r ?_ | refine out_r ?_ | refine round_r ?_ | refine cut_r ?_ | refine sc_r ?_
  exact ⟨_, rfl, hK, rfl⟩
end Go.Ab
/- louverlaw27.LinkTwo. -/
namespace Go.Ab
open Go.Proofs
def gC {α : Type} (R : RP α) (hG : Good R) (F : Nat → Prop) (x : α) (c : List AV) : Chunk := ⟨F, fun h => R h F x c, fun k h hY => hG.keep k h hY⟩
def modC (mm : ModL) (M : MemM) : Chunk := ⟨fun g => ∃ v ∈ M.all, g ∈ v.gs, fun h => ModO h mm M, fun k h hY => k.keep h fun v hv g hg hy => hY g hy ⟨v, hv, hg⟩⟩
def anyC (F : Nat → Prop) : Chunk := ⟨F, fun _ => True, fun _ _ _ => trivial⟩
theorem SH.kill2 {s0 s s' : St} {L : List Chunk} {c d : Chunk} {Y : List Nat} (h : SH s0 L s) (i j : Nat) (hij : i ≠ j) (hi : L[i]? = some c) (hj : L[j]? = some d) (k : Keep Y s s') (hY : ∀ g ∈ Y, c.F g ∨ d.F g) : SH s0 (((L.set j emC).set i (anyC fun g => c.F g ∨ d.F g)).set i emC) s' := by
  have hg : ((L.set j emC).set i (anyC fun g => c.F g ∨ d.F g))[i]? = some (anyC fun g => c.F g ∨ d.F g) := by
    rw [List.getElem?_set_self]
    rw [List.length_set]
    exact (List.getElem?_eq_some_iff.1 hi).1
  exact (h.mrg i j hij hi hj (anyC fun g => c.F g ∨ d.F g) trivial fun g hg => hg).upd i hg k hY emC trivial fun g hg => hg.elim
theorem ModR.four {h : Tr Grp} {m : ModL} {c : List AV} (k : ModR h m c) : ∃ a b d e, c = [a, b, d, e] := by
  obtain ⟨a, b, d, e, rfl, -⟩ := k
  exact ⟨a, b, d, e, rfl⟩
theorem linkM_small {ma mb : ModL} (ha : ma.small) (hb : mb.small) : (linkM ma mb).small ∧ (linkM ma mb).funcs.length ≤ 1000 := by
  by_cases h : linkE ma mb = 0
  · have hc : ¬ (32 < ma.globals.length + mb.globals.length ∨ 16 < ma.arrays.length + mb.arrays.length ∨ 16 < ma.channels.length + mb.channels.length ∨ 32 < ma.funcs.length + mb.funcs.length) := by
      intro hc
      unfold linkE at h
      split at h
      · omega
      · omega
    rw [show linkM ma mb = ⟨ma.globals ++ mb.globals, ma.arrays ++ mb.arrays, ma.channels ++ mb.channels, ma.funcs ++ mb.funcs.map (turnF ma)⟩ from if_pos h]
    refine ⟨⟨by simp; omega, by simp; omega, by simp; omega, by simp; omega, fun x hx => ?_⟩, by simp; omega⟩
    rcases List.mem_append.1 hx with hx | hx
    · exact ha.2.2.2.2 x hx
    · obtain ⟨y, hy, rfl⟩ := List.mem_map.1 hx
      have := hb.2.2.2.2 y hy
      exact ⟨this.1, this.2.1, by simp only [turnF, List.length_map]; exact this.2.2⟩
  · rw [show linkM ma mb = ⟨[], [], [], []⟩ from if_neg h]
    exact ⟨⟨by simp, by simp, by simp, by simp, fun x hx => by cases hx⟩, by simp⟩
theorem mods2 {h : Tr Grp} {mm : ModL} {M N : MemM} (h1 : ModO h mm M) (h2 : ModO h mm N) (hs : mm.small ∧ mm.funcs.length ≤ 1000) (hd : ∀ u ∈ M.all, ∀ w ∈ N.all, Dis u w) : Mods h [(mm, M), (mm, N)] := by
  refine ⟨fun q hq => ?_, fun q hq => ?_, ?_, by simp⟩
  · rcases List.mem_cons.1 hq with rfl | hq
    · exact h1
    · rw [List.mem_singleton.1 hq]; exact h2
  · rcases List.mem_cons.1 hq with rfl | hq
    · exact hs
    · rw [List.mem_singleton.1 hq]; exact hs
  · refine List.pairwise_cons.2 ⟨fun q hq => ?_, List.pairwise_singleton ..⟩
    rw [List.mem_singleton.1 hq]; exact hd
theorem allG2 {mm : ModL} {M N : MemM} {g : Nat} (h : g ∈ allG [(mm, M), (mm, N)]) : (modC mm M).F g ∨ (modC mm N).F g := by
  obtain ⟨q, hq, h⟩ := List.mem_flatMap.1 h
  have h := List.mem_flatMap.1 h
  obtain ⟨v, hv, h⟩ := h
  rcases List.mem_cons.1 hq with e | hq
  · rw [e] at hv; exact .inl ⟨v, hv, h⟩
  · rw [List.mem_singleton.1 hq] at hv; exact .inr ⟨v, hv, h⟩
theorem ModO.cells_leaf {h : Tr Grp} {mm : ModL} {M : MemM} (k : ModO h mm M) : M.cells.all AV.leaf = true := k.r.leaf.2
theorem lit2_cells {a b : List AV} (ha : a.length = 4 ∧ a.all AV.leaf = true) (hb : b.length = 4 ∧ b.all AV.leaf = true) : ∀ x ∈ [a, b], x.length = 4 ∧ x.all AV.leaf = true := by
  intro x hx
  rcases List.mem_cons.1 hx with rfl | hx
  · exact ha
  · rw [List.mem_singleton.1 hx]; exact hb
set_option maxRecDepth 10000 in
set_option maxHeartbeats 8000000 in
theorem linkTwo_run {s : St} {ca cb : List AV} {ma mb : ModL} (hok : s.Ok) (hma : ma.small) (hmb : mb.small) (hva : ModR s.h ma ca) (hvb : ModR s.h mb cb) (hin : ∀ x ∈ mb.funcs, ∀ y ∈ x.code, In64 y.a) :
    CallS Try.prog Tt Kt 6 [.agg ca, .agg cb] s (fun r _ => r = .bool true) := by
  have hza := hva.leaf.2
  have hzb := hvb.leaf.2
  obtain ⟨a0, a1, a2, a3, rfl⟩ := hva.four
  obtain ⟨b0, b1, b2, b3, rfl⟩ := hvb.four
  refine call_of (fn := Try.f6) (nt := 77) Try.func6 rfl rfl rfl ?_
  repeat refine wc_seq ?_
  have hS := SH.start hok
  refine wc_region ?_
  refine ws_box hS rfl rfl rfl hza ?_
  rintro p0 z hS hk
  have hS : SH s [_] z := hS
  have hK := hS.K
  refine ws_box hS rfl rfl rfl hzb ?_
  rintro p1 z hS hk
  have hS : SH s [_, _] z := hS
  have hK := hS.K
  refine w_val rfl rfl (op_pure rfl) ?_
  refine w_nil ?_
  refine then_n ?_
  repeat refine wc_seq ?_
  refine wc_region ?_
  refine w_val rfl rfl (op_loadC 0 hS rfl rfl rfl (Nat.le_of_ble_eq_true rfl) rfl) ?_
  refine w_call rfl rfl (op_call rfl rfl rfl rfl) (lentModule_ok hK.ok hma (ModR.keep0 hva hK)) ?_
  rintro _ z1 ⟨hk, cx, rfl, hmx⟩
  obtain ⟨x0, x1, x2, x3, rfl⟩ := hmx.to.to.four
  have hS := hS.add hk (gC ModLF good_mod (Fr z.ctr z1.ctr []) ma [x0, x1, x2, x3]) hmx (fun g hg => ⟨hg.1, hg.2.1⟩)
  clear hmx
  have hS : SH s [_, _, _] z1 := hS
  have hK := hS.K
  refine ws_alloc hS rfl rfl rfl rfl ?_
  rintro p3 z hS hk
  have hS : SH s [_, _, _, _] z := hS
  have hK := hS.K
  refine ws_store 3 hS rfl rfl rfl rfl rfl rfl (ModLR.to (ModLF.to (hS.get 2 rfl))).leaf.2 (Nat.le_of_ble_eq_true rfl) ?_
  rintro z hS
  have hS : SH s [_, _, _, _] z := hS
  have hK := hS.K
  refine w_nil ?_
  refine then_n ?_
  repeat refine wc_seq ?_
  refine wc_region ?_
  refine w_val rfl rfl (op_loadC 1 hS rfl rfl rfl (Nat.le_of_ble_eq_true rfl) rfl) ?_
  refine w_call rfl rfl (op_call rfl rfl rfl rfl) (lentModule_ok hK.ok hmb (ModR.keep0 hvb hK)) ?_
  rintro _ z1 ⟨hk, cy, rfl, hmy⟩
  obtain ⟨y0, y1, y2, y3, rfl⟩ := hmy.to.to.four
  have hS := hS.add hk (gC ModLF good_mod (Fr z.ctr z1.ctr []) mb [y0, y1, y2, y3]) hmy (fun g hg => ⟨hg.1, hg.2.1⟩)
  clear hmy
  have hS : SH s [_, _, _, _, _] z1 := hS
  have hK := hS.K
  refine ws_alloc hS rfl rfl rfl rfl ?_
  rintro p5 z hS hk
  have hS : SH s [_, _, _, _, _, _] z := hS
  have hK := hS.K
  refine ws_store 5 hS rfl rfl rfl rfl rfl rfl (ModLR.to (ModLF.to (hS.get 4 rfl))).leaf.2 (Nat.le_of_ble_eq_true rfl) ?_
  rintro z hS
  have hS : SH s [_, _, _, _, _, _] z := hS
  have hK := hS.K
  refine w_nil ?_
  refine then_n ?_
  repeat refine wc_seq ?_
  refine wc_region ?_
  refine w_val rfl rfl (op_loadC 3 hS rfl rfl rfl (Nat.le_of_ble_eq_true rfl) rfl) ?_
  refine w_val rfl rfl (op_loadC 5 hS rfl rfl rfl (Nat.le_of_ble_eq_true rfl) rfl) ?_
  refine w_call rfl rfl (op_call rfl rfl rfl rfl) (link_ok hK.ok hma hmb (ModLF.to (hS.get 2 rfl)) (ModLF.to (hS.get 4 rfl)) hin) ?_
  rintro _ z1 ⟨hk, M, rfl, hmM, hbM⟩
  have hS := hS.add hk (modC (linkM ma mb) M) hmM (fun g ⟨v, hv, hg⟩ => ⟨hbM v hv g hg, all_lt hmM hk.ok hv g hg⟩)
  have hlM := hmM.cells_leaf
  clear hmM hbM
  have hS : SH s [_, _, _, _, _, _, _] z1 := hS
  have hK := hS.K
  refine w_val rfl rfl (op_pure rfl) ?_
  refine w_val rfl rfl (op_pure rfl) ?_
  refine w_val rfl rfl (op_pure rfl) ?_
  refine ws_alloc hS rfl rfl rfl rfl ?_
  rintro p7 z hS hk
  have hS : SH s [_, _, _, _, _, _, _, _] z := hS
  have hK := hS.K
  refine ws_store 7 hS rfl rfl rfl rfl rfl rfl hlM (Nat.le_of_ble_eq_true rfl) ?_
  rintro z hS
  have hS : SH s [_, _, _, _, _, _, _, _] z := hS
  have hK := hS.K
  refine w_val rfl rfl (op_pure rfl) ?_
  refine w_nil ?_
  refine then_n ?_
  repeat refine wc_seq ?_
  refine wc_region ?_
  refine w_val rfl rfl (op_loadC 3 hS rfl rfl rfl (Nat.le_of_ble_eq_true rfl) rfl) ?_
  refine w_val rfl rfl (op_loadC 5 hS rfl rfl rfl (Nat.le_of_ble_eq_true rfl) rfl) ?_
  refine w_call rfl rfl (op_call rfl rfl rfl rfl) (link_ok hK.ok hma hmb (ModLF.to (hS.get 2 rfl)) (ModLF.to (hS.get 4 rfl)) hin) ?_
  rintro _ z1 ⟨hk, N, rfl, hmN, hbN⟩
  have hS := hS.add hk (modC (linkM ma mb) N) hmN (fun g ⟨v, hv, hg⟩ => ⟨hbN v hv g hg, all_lt hmN hk.ok hv g hg⟩)
  have hlN := hmN.cells_leaf
  clear hmN hbN
  have hS : SH s [_, _, _, _, _, _, _, _, _] z1 := hS
  have hK := hS.K
  refine w_val rfl rfl (op_pure rfl) ?_
  refine w_val rfl rfl (op_pure rfl) ?_
  refine w_val rfl rfl (op_pure rfl) ?_
  refine ws_alloc hS rfl rfl rfl rfl ?_
  rintro p9 z hS hk
  have hS : SH s [_, _, _, _, _, _, _, _, _, _] z := hS
  have hK := hS.K
  refine ws_store 9 hS rfl rfl rfl rfl rfl rfl hlN (Nat.le_of_ble_eq_true rfl) ?_
  rintro z hS
  have hS : SH s [_, _, _, _, _, _, _, _, _, _] z := hS
  have hK := hS.K
  refine w_val rfl rfl (op_pure rfl) ?_
  refine w_nil ?_
  refine then_n ?_
  repeat refine wc_seq ?_
  refine wc_region ?_
  refine w_val rfl rfl (op_loadC 0 hS rfl rfl rfl (Nat.le_of_ble_eq_true rfl) rfl) ?_
  refine w_val rfl rfl (op_loadC 1 hS rfl rfl rfl (Nat.le_of_ble_eq_true rfl) rfl) ?_
  refine w_call rfl rfl (op_call rfl rfl rfl rfl) (link_ref_ok hK.ok hma hmb (ModR.keep0 hva hK) (ModR.keep0 hvb hK) (okM_small hmb)) ?_
  rintro _ z1 ⟨hk, cw, rfl, hw⟩
  obtain ⟨w0, w1, w2, w3, rfl⟩ := hw.four
  have hS := hS.mov hk
  have hK := hS.K
  have hlw := hw.leaf.2
  refine w_val rfl rfl (op_pure rfl) ?_
  refine w_val rfl rfl (op_pure rfl) ?_
  refine w_val rfl rfl (op_pure rfl) ?_
  refine w_alloc rfl rfl rfl rfl hK.ok ?_
  intro z2 hp hka hca
  refine w_store_all rfl rfl rfl rfl rfl (by rfl) hlw hka.ok hp (by simp [AV.gs]) ?_
  intro z3 hp hkb hcb
  have hkb' : Keep [] z1 z3 := hka.fresh hkb (fun g hg => by rw [List.mem_singleton.1 hg]; exact Nat.le_refl _)
  have hS := hS.add hkb' (ptC (.ptr z1.ctr 0 0) [w0, w1, w2, w3]) hp (fun g hg => by rw [List.mem_singleton.1 hg]; omega)
  have hw := hw.keep0 hkb'
  generalize z1.ctr = p10 at *
  clear hkb' hka hkb hp hca hcb hk
  have hS : SH s [_, _, _, _, _, _, _, _, _, _, _] z3 := hS
  have hK := hS.K
  refine w_val rfl rfl (op_pure rfl) ?_
  refine w_nil ?_
  refine then_n ?_
  repeat refine wc_seq ?_
  refine wc_region ?_
  refine w_val rfl rfl (op_pure rfl) ?_
  refine w_val rfl rfl (op_pure rfl) ?_
  refine w_val rfl rfl (op_int (v := .bool true) rfl rfl (by decide) (by simp [intA])) ?_
  refine w_val rfl rfl (op_pure rfl) ?_
  refine w_val rfl rfl (op_loadC 7 hS rfl rfl rfl (Nat.le_of_ble_eq_true rfl) rfl) ?_
  refine w_val rfl rfl (op_loadC 10 hS rfl rfl rfl (Nat.le_of_ble_eq_true rfl) rfl) ?_
  refine w_call rfl rfl (op_call rfl rfl rfl rfl) (module_same hK.ok (linkM_small hma hmb).1 (ModO.r (hS.get 6 rfl)) hw) ?_
  rintro _ z1 ⟨hk, rfl⟩
  have hS := hS.mov hk
  have hw := ModR.keep0 hw hk
  have hK := hS.K
  refine w_val rfl rfl (op_pure rfl) ?_
  refine w_val rfl rfl (op_pure rfl) ?_
  refine w_val rfl rfl (op_loadC 9 hS rfl rfl rfl (Nat.le_of_ble_eq_true rfl) rfl) ?_
  refine w_val rfl rfl (op_loadC 10 hS rfl rfl rfl (Nat.le_of_ble_eq_true rfl) rfl) ?_
  refine w_call rfl rfl (op_call rfl rfl rfl rfl) (module_same hK.ok (linkM_small hma hmb).1 (ModO.r (hS.get 8 rfl)) hw) ?_
  rintro _ z1 ⟨hk, rfl⟩
  have hS := hS.mov hk
  have hw := ModR.keep0 hw hk
  have hK := hS.K
  refine w_val rfl rfl (op_pure rfl) ?_
  refine w_val rfl rfl (op_pure rfl) ?_
  refine w_val rfl rfl (op_loadC 3 hS rfl rfl rfl (Nat.le_of_ble_eq_true rfl) rfl) ?_
  refine w_val rfl rfl (op_loadC 0 hS rfl rfl rfl (Nat.le_of_ble_eq_true rfl) rfl) ?_
  refine w_call rfl rfl (op_call rfl rfl rfl rfl) (keptModule_ok hK.ok hma (ModLF.to (hS.get 2 rfl)) (ModR.keep0 hva hK)) ?_
  rintro _ z1 ⟨hk, rfl⟩
  have hS := hS.mov hk
  have hK := hS.K
  refine w_val rfl rfl (op_pure rfl) ?_
  refine w_val rfl rfl (op_pure rfl) ?_
  refine w_val rfl rfl (op_loadC 5 hS rfl rfl rfl (Nat.le_of_ble_eq_true rfl) rfl) ?_
  refine w_val rfl rfl (op_loadC 1 hS rfl rfl rfl (Nat.le_of_ble_eq_true rfl) rfl) ?_
  refine w_call rfl rfl (op_call rfl rfl rfl rfl) (keptModule_ok hK.ok hmb (ModLF.to (hS.get 4 rfl)) (ModR.keep0 hvb hK)) ?_
  rintro _ z1 ⟨hk, rfl⟩
  have hS := hS.mov hk
  have hK := hS.K
  refine w_val rfl rfl (op_pure rfl) ?_
  refine w_val rfl rfl (op_pure rfl) ?_
  refine w_val rfl rfl (op_loadC 7 hS rfl rfl rfl (Nat.le_of_ble_eq_true rfl) rfl) ?_
  refine w_val rfl rfl (op_loadC 9 hS rfl rfl rfl (Nat.le_of_ble_eq_true rfl) rfl) ?_
  have hMN := mods2 (hS.get 6 rfl) (hS.get 8 rfl) (linkM_small hma hmb) (fun u hu w hw' g hg hg' => hS.dis 6 8 _ _ (by decide) rfl rfl g ⟨u, hu, hg⟩ ⟨w, hw', hg'⟩)
  refine w_lit (c := [M.vg, M.va, M.vh, M.vf, N.vg, N.va, N.vh, N.vf]) [M.cells, N.cells] rfl rfl rfl rfl rfl rfl rfl (by decide) (by decide) rfl (by have h1 := hlM; have h2 := hlN; unfold MemM.cells at h1 h2; simp only [List.all_cons, List.all_nil, Bool.and_true, Bool.and_eq_true] at h1 h2 ⊢; simp [h1, h2]) rfl (lit2_cells ⟨rfl, hlM⟩ ⟨rfl, hlN⟩) rfl hK.ok ?_
  intro v z2 hv hk2 hc2 hvg
  have hMN := hMN.keep hk2 (fun _ _ _ _ _ _ h => by cases h)
  have hS := hS.add hk2 (rowC v 4 [M.cells, N.cells]) ⟨hv, fun e => by rw [hvg] at e; cases e⟩ (row_newb hk2 hv hvg hc2)
  have hS : SH s [_, _, _, _, _, _, _, _, _, _, _, _] z2 := hS
  have hK := hS.K
  refine w_call rfl rfl (op_call rfl rfl rfl rfl) (modules_ok (data := [(linkM ma mb, M), (linkM ma mb, N)]) hK.ok (hS.row 11 rfl) hMN (fun g hg h => by
    rcases allG2 h with h | h
    · exact hS.dis 11 6 _ _ (by decide) rfl rfl g hg h
    · exact hS.dis 11 8 _ _ (by decide) rfl rfl g hg h)) ?_
  rintro _ z1 ⟨hk, rfl⟩
  have hS := hS.kill2 6 8 (by decide) rfl rfl hk (fun g hg => allG2 hg)
  have hS : SH s [_, _, _, _, _, _, _, _, _, _, _, _] z1 := hS
  have hK := hS.K
  refine w_val rfl rfl (op_pure rfl) ?_
  refine w_val rfl rfl (op_pure rfl) ?_
  refine w_val rfl rfl (op_loadC 3 hS rfl rfl rfl (Nat.le_of_ble_eq_true rfl) rfl) ?_
  refine w_val rfl rfl (op_loadC 0 hS rfl rfl rfl (Nat.le_of_ble_eq_true rfl) rfl) ?_
  refine w_call rfl rfl (op_call rfl rfl rfl rfl) (keptModule_ok hK.ok hma (ModLF.to (hS.get 2 rfl)) (ModR.keep0 hva hK)) ?_
  rintro _ z1 ⟨hk, rfl⟩
  have hS := hS.mov hk
  have hK := hS.K
  refine w_val rfl rfl (op_pure rfl) ?_
  refine w_val rfl rfl (op_pure rfl) ?_
  refine w_val rfl rfl (op_loadC 5 hS rfl rfl rfl (Nat.le_of_ble_eq_true rfl) rfl) ?_
  refine w_val rfl rfl (op_loadC 1 hS rfl rfl rfl (Nat.le_of_ble_eq_true rfl) rfl) ?_
  refine w_call rfl rfl (op_call rfl rfl rfl rfl) (keptModule_ok hK.ok hmb (ModLF.to (hS.get 4 rfl)) (ModR.keep0 hvb hK)) ?_
  rintro _ z1 ⟨hk, rfl⟩
  have hS := hS.mov hk
  have hK := hS.K
  refine w_val rfl rfl (op_pure rfl) ?_
  refine w_val rfl rfl (op_pure rfl) ?_
  refine w_call rfl rfl (op_call rfl rfl rfl rfl) (call_known (b := true) (Q := fun r s' => r = .bool true ∧ s' = _) rfl ⟨rfl, rfl⟩) ?_
  rintro _ _ ⟨rfl, rfl⟩
  refine w_val rfl rfl (op_pure rfl) ?_
  refine w_val rfl rfl (op_pure rfl) ?_
  refine w_nil ?_
  refine then_n ?_
  refine wc_ret ?_
  repeat first | refine then_r ?_ | refine out_r ?_ | refine round_r ?_ | refine cut_r ?_ | refine sc_r ?_
  exact ⟨_, rfl, rfl⟩
end Go.Ab
/- What came in, as the abstract machine sees it: shapes by type. -/
namespace Go.Ab
/-- Cells that a value of this type may hold: whole numbers, truth values, strings, rows and structs of such. -/
def Shaped (P : Program) : Nat → TypeId → List AV → Prop
  | 0, _, _ => False
  | n + 1, t, us => match P.underlying t with
    | some .bool => ∃ b, us = [.bool b]
    | some (.int k) => ∃ m, us = [.int k m] ∧ (Lit.int k m).wf = true
    | some .string => ∃ s : ByteArray, us = [.str s] ∧ s.size ≤ maxLen
    | some (.slice e) => ∃ nl xs, us = [.ro nl xs] ∧ (nl = true → xs = []) ∧ xs.length ≤ maxLen ∧ ∀ x ∈ xs, x.cells.length = P.cellsOf e ∧ Shaped P n e x.cells
    | some (.struct fs) => us.length = P.cellsOf t ∧ ∀ f ∈ fs.toList, Shaped P n f.type ((us.drop f.offset).take (P.cellsOf f.type))
    | _ => False
/-- The fields lie one behind the other. -/
def tiles (P : Program) : Nat → List Field → Nat → Bool
  | k, [], n => k == n
  | k, f :: r, n => f.offset == k && tiles P (k + P.cellsOf f.type) r n
/-- Types of such values. -/
def Plain (P : Program) : Nat → TypeId → Bool
  | 0, _ => false
  | n + 1, t => match P.underlying t with
    | some .bool | some (.int _) | some .string => true
    | some (.slice e) => P.cellsOf e > 0 && Plain P n e
    | some (.struct fs) => tiles P 0 fs.toList (P.cellsOf t) && fs.toList.all fun f => Plain P n f.type
    | _ => false
end Go.Ab
/- What came in, as the abstract machine sees it: rows of the arguments' data. -/
namespace Go.Ab
def packE {H : Type} (d : DataW H) (cs : List AV) : AV := match d with
  | .agg _ => .agg cs
  | _ => cs.headD .undef
mutual
/-- The cells of what was read. -/
def avs {H : Type} : DataW H → List AV
  | .lit (.int k n) => [.int k n]
  | .lit (.bool b) => [.bool b]
  | .lit (.string bs) => [.str ⟨bs.toArray⟩]
  | .nil => [.ro true []]
  | .slice es _ => [.ro false (elts es)]
  | .agg ds => avsAll ds
  | _ => [.undef]
def avsAll {H : Type} : List (DataW H) → List AV
  | [] => []
  | d :: r => avs d ++ avsAll r
def elts {H : Type} : List (DataW H) → List AV
  | [] => []
  | d :: r => packE d (avs d) :: elts r
end
theorem elts_map {H : Type} : ∀ (l : List (DataW H)), elts l = l.map fun d => packE d (avs d)
  | [] => by rw [elts]; rfl
  | d :: r => by rw [elts, elts_map r]; rfl
/-- Data of a type. -/
def HasTy {H : Type} (P : Program) : Nat → TypeId → DataW H → Prop
  | 0, _, _ => False
  | n + 1, t, d => match P.underlying t with
    | some .bool => ∃ b, d = .lit (.bool b)
    | some (.int k) => ∃ m, d = .lit (.int k m) ∧ (Lit.int k m).wf = true
    | some .string => ∃ bs, d = .lit (.string bs)
    | some (.slice e) => d = .nil ∨ ∃ es sp, d = .slice es sp ∧ ∀ x ∈ es, HasTy P n e x
    | some (.struct fs) => ∃ ds, d = .agg ds ∧ ds.length = fs.toList.length ∧ ∀ (i : Nat) (f : Field) (x : DataW H), fs.toList[i]? = some f → ds[i]? = some x → HasTy P n f.type x
    | _ => False
theorem HasTy.pack {H : Type} {P : Program} {n : Nat} {t : TypeId} {d : DataW H} (h : HasTy P n t d) : (packE d (avs d)).cells = avs d := by
  cases n with
  | zero => exact h.elim
  | succ n =>
    unfold HasTy at h
    split at h
    · obtain ⟨b, rfl⟩ := h; simp [avs, packE, AV.cells]
    · obtain ⟨b, rfl, -⟩ := h; simp [avs, packE, AV.cells]
    · obtain ⟨b, rfl⟩ := h; simp [avs, packE, AV.cells]
    · rcases h with rfl | ⟨es, sp, rfl, -⟩ <;> simp [avs, packE, AV.cells]
    · obtain ⟨ds, rfl, -⟩ := h; simp [avs, packE, AV.cells]
    · exact h.elim
theorem mapM_some' {α β : Type} {f : α → Option β} : ∀ {l : List α} {r : List β}, l.mapM f = some r → l.length = r.length ∧ ∀ (i : Nat) (x : α) (y : β), l[i]? = some x → r[i]? = some y → f x = some y
  | [], r, h => by simp at h; subst h; exact ⟨rfl, fun i x y h => by simp at h⟩
  | a :: l, r, h => by
    rw [List.mapM_cons] at h
    cases ha : f a with
    | none => simp [ha] at h
    | some b =>
      cases hl : l.mapM f with
      | none => simp [ha, hl] at h
      | some r' =>
        simp [ha, hl] at h
        subst h
        obtain ⟨h1, h2⟩ := mapM_some' hl
        refine ⟨by simp [h1], fun i x y hx hy => ?_⟩
        cases i with
        | zero => simp at hx hy; subst hx; subst hy; exact ha
        | succ i => exact h2 i x y (by simpa using hx) (by simpa using hy)
section
variable {H : Type} {enc : TypeId × Value → H} {P : Program} {w : World} {spare : Nat → Bool} {held : Bool} {ρ : Loc}
/-- What a reading of one type gives. -/
def RdOk (w : World) (P : Program) (ρ : Loc) (n : Nat) (t : TypeId) (cs : List Value) (d : DataW H) : Prop :=
  HasTy P n t d ∧ (avs d).length = cs.length ∧ CR w w.heap.size ρ (avs d) cs ∧ (avs d).all AV.leaf = true
theorem fields_read {n : Nat} (ih : ∀ t cs x, DataW.trod enc P w 0 spare held n t cs = some x → ∀ m, Plain P m t = true → RdOk w P ρ n t cs x.1) {m : Nat} {cs : List Value} :
    ∀ (fs : List Field) (k N : Nat) (xs : List (DataW H × List MemPlace)), N = cs.length → xs.length = fs.length → (∀ (i : Nat) (f : Field), fs[i]? = some f → DataW.trod enc P w 0 spare held n f.type ((cs.drop f.offset).take (P.cellsOf f.type)) = xs[i]?) → tiles P k fs N = true → (∀ f ∈ fs, Plain P m f.type = true) →
      (avsAll (xs.map (·.1))).length = (cs.drop k).length ∧ CR w w.heap.size ρ (avsAll (xs.map (·.1))) (cs.drop k) ∧ (avsAll (xs.map (·.1))).all AV.leaf = true ∧ ∀ (i : Nat) (f : Field) (x : DataW H × List MemPlace), fs[i]? = some f → xs[i]? = some x → HasTy P n f.type x.1
  | [], k, N, xs, hN, hl, h, ht, hp => by
    have : xs = [] := List.eq_nil_of_length_eq_zero hl
    subst this
    simp only [tiles, beq_iff_eq] at ht
    subst ht hN
    simp [avsAll, CR.nil]
  | f :: r, k, N, xs, hN, hl, h, ht, hp => by
    cases xs with
    | nil => simp at hl
    | cons b ys =>
      simp only [tiles, Bool.and_eq_true, beq_iff_eq] at ht
      obtain ⟨hoff, ht⟩ := ht
      have h0 := h 0 f rfl
      simp only [List.getElem?_cons_zero] at h0
      obtain ⟨h5, h1, h2, h6⟩ := ih _ _ b h0 m (hp f (List.mem_cons_self ..))
      obtain ⟨h3, h4, h7, h8⟩ := fields_read ih r (k + P.cellsOf f.type) N ys hN (by simpa using hl) (fun i g hg => by have := h (i + 1) g (by simpa using hg); simpa using this) ht (fun g hg => hp g (List.mem_cons_of_mem _ hg))
      rw [hoff] at h1 h2
      have e : cs.drop k = (cs.drop k).take (P.cellsOf f.type) ++ cs.drop (k + P.cellsOf f.type) := by
        rw [← List.drop_drop, List.take_append_drop]
      rw [List.map_cons, avsAll, e]
      refine ⟨by rw [List.length_append, List.length_append, h1, h3], h2.append h4, by rw [List.all_append, h6, h7]; rfl, fun i g x hg hx => ?_⟩
      cases i with
      | zero => simp at hg hx; subst hg; subst hx; exact h5
      | succ i => exact h8 i g x (by simpa using hg) (by simpa using hx)
theorem cells_at {w : World} {base : Nat} {a : Addr} {n : Nat} {cs : List Value} (h : w.cells? base a n = some cs) : cs.length = n ∧ ∀ (k : Nat) (v : Value), cs[k]? = some v → w.cell? (a.add k) = some v := by
  unfold World.cells? at h
  split at h
  · obtain ⟨h1, h2⟩ := mapM_some' h
    refine ⟨by rw [← h1, List.length_range], fun k v hv => ?_⟩
    have hk : k < n := by
      have := (List.getElem?_eq_some_iff.1 hv).1
      rw [← h1, List.length_range] at this; exact this
    exact h2 k k v (by rw [List.getElem?_range hk]) hv
  · cases h
theorem spot_none {w : World} {a : Addr} {v : Value} (h : w.cell? a = some v) : a.spot = none ∧ a.block < w.heap.size := by
  unfold World.cell? at h
  split at h
  · rename_i hb
    split at h
    · cases h
    · rename_i hs
      refine ⟨by simpa using hs, ?_⟩
      rcases Nat.lt_or_ge a.block w.heap.size with hl | hl
      · exact hl
      · rw [Array.getElem?_eq_none hl] at hb; cases hb
  · cases h
theorem CR.sole {u : AV} {v : Value} (h : VR w w.heap.size ρ u v) : CR w w.heap.size ρ [u] [v] := CR.cons h CR.nil
theorem read_ok : ∀ (n : Nat) (t : TypeId) (cs : List Value) (x : DataW H × List MemPlace), DataW.trod enc P w 0 spare held n t cs = some x → ∀ m, Plain P m t = true → RdOk w P ρ n t cs x.1
  | 0, _, _, _, h, _, _ => by simp [DataW.trod] at h
  | n + 1, t, cs, x, h, 0, hp => by simp [Plain] at hp
  | n + 1, t, cs, x, h, m + 1, hp => by
    have ih := fun t cs x h m hp => read_ok n t cs x h m hp
    unfold Plain at hp
    unfold RdOk HasTy
    cases hu : P.underlying t with
    | none => simp [hu] at hp
    | some td =>
      rw [hu] at hp
      cases td with
      | bool =>
        obtain ⟨b, rfl, rfl⟩ := DataW.trod_bool hu h
        exact ⟨⟨b, rfl⟩, by simp [avs], by simp only [avs]; exact CR.sole (.bool b), by simp [avs, AV.leaf]⟩
      | int k =>
        obtain ⟨b, rfl, rfl, hw⟩ := DataW.trod_int hu h
        exact ⟨⟨b, rfl, hw⟩, by simp [avs], by simp only [avs]; exact CR.sole (.int k b), by simp [avs, AV.leaf]⟩
      | string =>
        obtain ⟨b, rfl, rfl, hw⟩ := DataW.trod_string hu h
        exact ⟨⟨_, rfl⟩, by simp [avs], by simp only [avs]; exact CR.sole (.str b), by simp [avs, AV.leaf]⟩
      | slice e =>
        simp only [Bool.and_eq_true, decide_eq_true_eq] at hp
        rcases DataW.trod_slice hu h with ⟨rfl, rfl⟩ | ⟨a, len, cap, elems, rest, n', hn, rfl, rfl, hb, hlc, hcm, hel, helem, -, -⟩
        · refine ⟨.inl rfl, by simp [avs], ?_, by simp [avs, AV.leaf]⟩
          simp only [avs]
          exact CR.sole (.ro true [] none 0 (fun _ _ => undef) (Nat.le_refl _) (by simp) (fun _ => rfl) (fun a h => by cases h) (fun i x h => by simp at h) (fun i x h => by simp at h))
        · obtain rfl : n = n' := by omega
          have hall : ∀ (i : Nat) (y : DataW H × List MemPlace), elems[i]? = some y → ∃ vs, w.cells? 0 (a.add (i * P.cellsOf e)) (P.cellsOf e) = some vs ∧ RdOk w P ρ n e vs y.1 := by
            intro i y hy
            have hi : i < len := by have := (List.getElem?_eq_some_iff.1 hy).1; omega
            have := helem i hi
            rw [hy] at this
            cases hc : w.cells? 0 (a.add (i * P.cellsOf e)) (P.cellsOf e) with
            | none => rw [hc] at this; cases this
            | some vs => rw [hc] at this; exact ⟨vs, rfl, ih e vs y this m hp.2⟩
          refine ⟨.inr ⟨_, _, rfl, fun d hd => ?_⟩, by simp [avs], ?_, by simp [avs, AV.leaf]⟩
          · obtain ⟨y, hy, rfl⟩ := List.mem_map.1 hd
            obtain ⟨i, hi⟩ := List.getElem?_of_mem hy
            obtain ⟨vs, -, h1, -⟩ := hall i y hi
            exact h1
          · simp only [avs]
            refine CR.sole ?_
            have hlen : (elts (elems.map (·.1))).length = len := by rw [elts_map]; simp [hel]
            have hget : ∀ (i : Nat) (u : AV), (elts (elems.map (·.1)))[i]? = some u → ∃ y vs, elems[i]? = some y ∧ w.cells? 0 (a.add (i * P.cellsOf e)) (P.cellsOf e) = some vs ∧ u.cells = avs y.1 ∧ RdOk w P ρ n e vs y.1 := by
              intro i u hu'
              rw [elts_map, List.map_map, List.getElem?_map] at hu'
              cases hy : elems[i]? with
              | none => rw [hy] at hu'; cases hu'
              | some y =>
                rw [hy] at hu'
                obtain ⟨vs, h1, h2⟩ := hall i y hy
                cases hu'
                exact ⟨y, vs, rfl, h1, h2.1.pack, h2⟩
            have hadd : ∀ (b : Addr) (k : Nat), b.spot = none → b.add k = ⟨b.block, b.off + k, none⟩ := by
              intro b k hb
              obtain ⟨b1, b2, b3⟩ := b
              simp only at hb
              subst hb
              unfold Addr.add
              split
              · rename_i h0; rw [h0]; rfl
              · rfl
            have hsp : elems ≠ [] → a.spot = none ∧ a.block < w.heap.size := by
              intro hne
              obtain ⟨y, hy⟩ : ∃ y, elems[0]? = some y := by
                cases elems with
                | nil => exact (hne rfl).elim
                | cons y r => exact ⟨y, rfl⟩
              obtain ⟨vs, h2, -⟩ := hall 0 y hy
              obtain ⟨h7, h8⟩ := cells_at h2
              have hv := List.getElem?_eq_getElem (show 0 < vs.length by rw [h7]; exact hp.1)
              have := h8 0 _ hv
              rw [Nat.zero_mul] at this
              exact spot_none (a := a) this
            have hcell : ∀ (i : Nat) (u : AV), (elts (elems.map (·.1)))[i]? = some u → ∀ (k : Nat) (c : AV), u.cells[k]? = some c → ∃ v, w.cell? ⟨a.block, a.off + i * u.cells.length + k, none⟩ = some v ∧ VR w w.heap.size ρ c v := by
              intro i u hu' k c hc
              obtain ⟨y, vs, hy, h2, h3, h4, h5, h6, -⟩ := hget i u hu'
              obtain ⟨h7, h8⟩ := cells_at h2
              rw [h3] at hc
              have hk : k < vs.length := by rw [← h5]; exact (List.getElem?_eq_some_iff.1 hc).1
              have hv := List.getElem?_eq_getElem hk
              refine ⟨vs[k], ?_, h6.2 k c _ hc hv⟩
              have := h8 k _ hv
              have hs := (hsp (fun e => by rw [e] at hy; simp at hy)).1
              rw [hadd a _ hs, hadd _ _ rfl] at this
              rw [h3, h5, h7]
              exact this
            have key : VR w w.heap.size ρ (.ro false (elts (elems.map (·.1)))) (.slice (some a) (elts (elems.map (·.1))).length cap) := by
              refine .ro false _ (some a) cap (fun i k => match (elts (elems.map (·.1)))[i]? with
                | some u => (w.cell? ⟨a.block, a.off + i * u.cells.length + k, none⟩).getD undef
                | none => undef) (by omega) (by simp) (fun h => by cases h) ?_ ?_ ?_
              · intro a' ha hne
                cases ha
                exact hsp (fun e => hne (by rw [e]; rfl))
              · intro i u hu' k c hc a' ha
                cases ha
                obtain ⟨v, hv, -⟩ := hcell i u hu' k c hc
                simp only [hu', hv]
                rfl
              · intro i u hu' k c hc
                obtain ⟨v, hv, hr⟩ := hcell i u hu' k c hc
                simp only [hu', hv]
                exact hr
            rw [hlen] at key
            exact key
      | struct fs =>
        obtain ⟨xs, n', hn, rfl, hcs, hxl, hx⟩ := DataW.trod_struct hu h
        obtain rfl : n = n' := by omega
        simp only [Bool.and_eq_true, List.all_eq_true] at hp
        obtain ⟨h1, h2, h3, h4⟩ := fields_read (ρ := ρ) ih fs.toList 0 (P.cellsOf t) xs hcs.symm (by simpa using hxl) (fun i f hf => hx i f (by simpa using hf)) hp.1 hp.2
        refine ⟨⟨_, rfl, by simp [hxl], fun i f y hf hy => ?_⟩, ?_, ?_, ?_⟩
        · rw [List.getElem?_map] at hy
          cases hxi : xs[i]? with
          | none => rw [hxi] at hy; cases hy
          | some z => rw [hxi] at hy; cases hy; exact h4 i f z hf hxi
        · simp only [avs]; simpa using h1
        · simp only [avs]; simpa using h2
        · simp only [avs]; exact h3
      | _ => simp at hp
end
end Go.Ab
/- Runs of laws with arguments; rows of what was read. -/
namespace Go.Ab
open Go.WideShapes Go.RowKit
def St.zero : St := ⟨0, .leaf, []⟩
theorem zero_ok : St.zero.Ok := fun _ _ => rfl
theorem run_ok {P : Program} {T : Tab} (hm : P.follows .mixedOrders = true) (hT : TabOk P T) (hng : NoNG P) {K : FuncId → Option Bool} (hK : KOk P K) {f : FuncId} {args : List AV} {args' : Array Value} {w : World}
    (hc : CallS P T K f args St.zero fun r _ => r = .bool true) (ha : CR w w.heap.size (fun _ _ => none) args args'.toList) : Calls P f args' w fun e w' => e = .returned (.bool true) ∧ Below w.heap.size w w' := by
  obtain ⟨N, v, s', rfl, hn⟩ := hc
  have hs : Sim w w.heap.size (fun _ _ => none) St.zero w :=
    { low := Below.refl _ _, big := Nat.le_refl _,
      ver := by intros; simp_all, al := by intros; simp_all, sep := by intros; simp_all, ctr := by intros; simp_all }
  refine ((call_soundK (w0 := w) (B0 := w.heap.size) hm hT hng hK N f args _ _ _ (hn N (Nat.le_refl _))).2 _ w args' hs ha).mono fun e w' ⟨v', ρ', he, _, h2, h3⟩ => ?_
  cases h3
  exact ⟨he, h2.low⟩
section
variable {H : Type} {P : Program} {w : World} {ρ : Loc}
theorem packE_vr {r : Reach} {base n : Nat} {t : TypeId} {v : Value} {d : DataW H} (h : RdOk w P ρ n t v.cells.toList d) (hv : Value.okWide P w r base t v) : VR w w.heap.size ρ (packE d (avs d)) v := by
  obtain ⟨h1, h2, h3, h4⟩ := h
  cases n with
  | zero => exact h1.elim
  | succ n =>
    unfold HasTy at h1
    split at h1
    · rename_i hu
      obtain ⟨b, rfl⟩ := h1
      obtain ⟨b', rfl⟩ := okWide_bool hu hv
      simp only [avs, packE] at h3 ⊢
      exact h3.2 0 _ _ rfl rfl
    · rename_i hu
      obtain ⟨b, rfl, -⟩ := h1
      obtain ⟨b', rfl⟩ := okWide_int hu hv
      simp only [avs, packE] at h3 ⊢
      exact h3.2 0 _ _ rfl rfl
    · rename_i hu
      obtain ⟨b, rfl⟩ := h1
      obtain ⟨b', rfl⟩ := okWide_string hu hv
      simp only [avs, packE] at h3 ⊢
      exact h3.2 0 _ _ rfl rfl
    · rename_i hu
      obtain ⟨a, len, cap, rfl⟩ := okWide_slice hu hv
      rcases h1 with rfl | ⟨es, sp, rfl, -⟩
      · simp only [avs, packE] at h3 ⊢
        exact h3.2 0 _ _ rfl rfl
      · simp only [avs, packE] at h3 ⊢
        exact h3.2 0 _ _ rfl rfl
    · rename_i hu
      obtain ⟨arr, rfl, -⟩ := okWide_struct hu hv
      obtain ⟨ds, rfl, -⟩ := h1
      simp only [packE]
      have e : Value.cells (.agg arr) = arr := rfl
      rw [e] at h2 h3
      exact .agg _ arr (by simpa using h2) fun i u v hu hv => h3.2 i u v hu (by simpa using hv)
    · exact h1.elim
def dElems : DataW H → List (DataW H)
  | .slice es _ => es
  | _ => []
def dInt : DataW H → Int
  | .lit (.int _ n) => n
  | _ => 0
def dBool : DataW H → Bool
  | .lit (.bool b) => b
  | _ => false
def dStr : DataW H → ByteArray
  | .lit (.string bs) => ⟨bs.toArray⟩
  | _ => ByteArray.empty
theorem ty_int {n : Nat} {t : TypeId} {k : IntKind} {d : DataW H} (h : HasTy P n t d) (hu : P.underlying t = some (.int k)) : avs d = [.int k (dInt d)] ∧ (Lit.int k (dInt d)).wf = true := by
  cases n with
  | zero => exact h.elim
  | succ n =>
    unfold HasTy at h
    rw [hu] at h
    obtain ⟨m, rfl, hw⟩ := h
    exact ⟨by simp [avs, dInt], hw⟩
theorem ty_bool {n : Nat} {t : TypeId} {d : DataW H} (h : HasTy P n t d) (hu : P.underlying t = some .bool) : avs d = [.bool (dBool d)] := by
  cases n with
  | zero => exact h.elim
  | succ n =>
    unfold HasTy at h
    rw [hu] at h
    obtain ⟨m, rfl⟩ := h
    simp [avs, dBool]
theorem ty_str {n : Nat} {t : TypeId} {d : DataW H} (h : HasTy P n t d) (hu : P.underlying t = some .string) : avs d = [.str (dStr d)] := by
  cases n with
  | zero => exact h.elim
  | succ n =>
    unfold HasTy at h
    rw [hu] at h
    obtain ⟨m, rfl⟩ := h
    simp [avs, dStr]
theorem ty_slice {n : Nat} {t e : TypeId} {d : DataW H} (h : HasTy P n t d) (hu : P.underlying t = some (.slice e)) : ∃ m nl, avs d = [.ro nl (elts (dElems d))] ∧ packE d (avs d) = .ro nl (elts (dElems d)) ∧ ∀ x ∈ dElems d, HasTy P m e x := by
  cases n with
  | zero => exact h.elim
  | succ n =>
    unfold HasTy at h
    rw [hu] at h
    rcases h with rfl | ⟨es, sp, rfl, hx⟩
    · exact ⟨n, true, by simp [avs, dElems, elts], by simp [avs, dElems, elts, packE], fun x hx => by cases hx⟩
    · exact ⟨n, false, by simp [avs, dElems], by simp [avs, dElems, packE], hx⟩
theorem ty_struct {n : Nat} {t : TypeId} {fs : Array Field} {d : DataW H} (h : HasTy P n t d) (hu : P.underlying t = some (.struct fs)) : ∃ m ds, d = .agg ds ∧ ds.length = fs.toList.length ∧ ∀ (i : Nat) (f : Field) (x : DataW H), fs.toList[i]? = some f → ds[i]? = some x → HasTy P m f.type x := by
  cases n with
  | zero => exact h.elim
  | succ n =>
    unfold HasTy at h
    rw [hu] at h
    obtain ⟨ds, h1, h2, h3⟩ := h
    exact ⟨n, ds, h1, h2, h3⟩
theorem row_elts {h : Tr Grp} {sz m : Nat} {e : TypeId} {nl : Bool} {es : List (DataW H)} (ht : ∀ x ∈ es, HasTy P m e x) (hc : ∀ x ∈ es, (avs x).length = sz ∧ (avs x).all AV.leaf = true) : Row h sz (.ro nl (elts es)) (es.map avs) := by
  refine ⟨?_, ?_⟩
  · rw [elts_map, List.map_map]
    exact List.map_congr_left fun x hx => (ht x hx).pack
  · intro c hc'
    obtain ⟨x, hx, rfl⟩ := List.mem_map.1 hc'
    exact hc x hx
/-- A row of flat elements. -/
theorem rowF_elts {h : Tr Grp} {sz m : Nat} {e : TypeId} {nl : Bool} {es : List (DataW H)} {α : Type} {f : DataW H → α} {c : α → List AV} (ht : ∀ x ∈ es, HasTy P m e x) (hx : ∀ x ∈ es, avs x = c (f x)) (hc : ∀ a, (c a).length = sz ∧ (c a).all AV.leaf = true) : Row h sz (.ro nl (elts es)) ((es.map f).map c) := by
  have := row_elts (h := h) (sz := sz) (nl := nl) ht fun x hx' => by rw [hx x hx']; exact hc _
  rw [List.map_map]
  rw [show es.map (c ∘ f) = es.map avs from List.map_congr_left fun x hx' => (hx x hx').symm]
  exact this
/-- A row of rows. -/
theorem rowR_elts {h : Tr Grp} {sz m : Nat} {e : TypeId} {nl : Bool} {es : List (DataW H)} {α : Type} {f : DataW H → α} {R : Tr Grp → α → List AV → Prop} (ht : ∀ x ∈ es, HasTy P m e x) (hx : ∀ x ∈ es, R h (f x) (avs x)) (hc : ∀ x ∈ es, (avs x).length = sz ∧ (avs x).all AV.leaf = true) : RowR h sz R (.ro nl (elts es)) (es.map f) := by
  refine ⟨_, row_elts ht hc, by simp, fun i a c h1 h2 => ?_⟩
  rw [List.getElem?_map] at h1 h2
  cases hy : es[i]? with
  | none => rw [hy] at h1; cases h1
  | some y =>
    rw [hy] at h1 h2
    cases h1
    cases h2
    exact hx y (List.mem_of_getElem? hy)
end
end Go.Ab
/- What the abstract machine asks of this program: the table, the orders. -/
namespace Go.Ab
open Go.Proofs
theorem tt_ok : TabOk Try.prog Tt := tab_ok (by kernel_rfl)
theorem prog_ng : NoNG Try.prog := ng_ok (by kernel_rfl)
theorem prog_mixed : Try.prog.follows .mixedOrders = true := by kernel_rfl
end Go.Ab
/- The table of closed functions is right. -/
namespace Go.Ab
open Go.Proofs Go.RowKit
theorem known_of {P : Program} {T : Tab} (hm : P.follows .mixedOrders = true) (hT : TabOk P T) (hng : NoNG P) {n : Nat} {f : FuncId} (h : yes (evCall P T n f [] ⟨0, .leaf, []⟩) = true) :
    Callable P f ∧ ∀ w, Calls P f #[] w fun e w' => e = .returned (.bool true) ∧ Below w.heap.size w w' := by
  refine ⟨?_, fun w => closed_run hm hT hng h w⟩
  cases hr : evCall P T n f [] ⟨0, .leaf, []⟩ with
  | none => simp [hr, yes] at h
  | some r => exact (call_sound (w0 := default) (B0 := 0) hm hT hng n f [] _ _ _ hr).1
set_option maxRecDepth 1000000 in
theorem awake26 : yes (evCall Try.prog Tt 3000 16 [] ⟨0, .leaf, []⟩) = true := by kernel_rfl
set_option maxRecDepth 1000000 in
theorem awake27 : yes (evCall Try.prog Tt 3000 33 [] ⟨0, .leaf, []⟩) = true := by kernel_rfl
theorem kt_ok : KOk Try.prog Kt := by
  intro f b h
  unfold Kt at h
  cases h1 : Nat.beq f 16 with
  | true =>
    rw [h1, cond_true] at h
    cases h
    rw [Nat.eq_of_beq_eq_true h1]
    exact known_of prog_mixed tt_ok prog_ng awake26
  | false =>
    rw [h1, cond_false] at h
    cases h2 : Nat.beq f 33 with
    | true =>
      rw [h2, cond_true] at h
      cases h
      rw [Nat.eq_of_beq_eq_true h2]
      exact known_of prog_mixed tt_ok prog_ng awake27
    | false => rw [h2, cond_false] at h; cases h
end Go.Ab
/- What is read of a module, an array, a function, an instruction; how much a reading holds. -/
namespace Go.Ab
open Go.Proofs
section
variable {H : Type} {h : Tr Grp} {n : Nat} {d : DataW H}
theorem wf_in {a : Int} (h : (Lit.int .i64 a).wf = true) : In64 a := by
  simp only [Lit.wf, Bool.and_eq_true, decide_eq_true_eq] at h
  have e1 : IntKind.i64.min = -9223372036854775808 := by decide
  have e2 : IntKind.i64.max = 9223372036854775807 := by decide
  rw [e1, e2] at h
  unfold In64
  omega
def toInstr : DataW H → InstrL
  | .agg [a, b] => ⟨dInt a, dInt b⟩
  | _ => ⟨0, 0⟩
def toArr : DataW H → ArrL
  | .agg [a, b] => ⟨dInt a, dInt b⟩
  | _ => ⟨0, 0⟩
def toFunc : DataW H → FuncL
  | .agg [l, p, r, a, b, c] => ⟨dInt l, (dElems p).map dInt, (dElems r).map dInt, dInt a, dInt b, (dElems c).map toInstr⟩
  | _ => ⟨0, [], [], 0, 0, []⟩
def toMod : DataW H → ModL
  | .agg [g, a, c, f] => ⟨(dElems g).map dInt, (dElems a).map toArr, (dElems c).map dInt, (dElems f).map toFunc⟩
  | _ => ⟨[], [], [], []⟩
theorem instr_of (k : HasTy Try.prog n 50 d) : avs d = inC (toInstr d) ∧ In64 (toInstr d).op ∧ In64 (toInstr d).a := by
  obtain ⟨m, ds, rfl, hl, hx⟩ := ty_struct k Try.underlying50
  match ds, hl, hx with
  | [a, b], _, hx =>
    have h0 := ty_int (hx 0 _ a rfl rfl) Try.underlying3
    have h1 := ty_int (hx 1 _ b rfl rfl) Try.underlying2
    refine ⟨?_, wf_in h0.2, wf_in h1.2⟩
    simp only [avs, avsAll, h0.1, h1.1, toInstr, inC]
    rfl
theorem arr_of (k : HasTy Try.prog n 71 d) : avs d = aC (toArr d) := by
  obtain ⟨m, ds, rfl, hl, hx⟩ := ty_struct k Try.underlying71
  match ds, hl, hx with
  | [a, b], _, hx =>
    have h0 := ty_int (hx 0 _ a rfl rfl) Try.underlying3
    have h1 := ty_int (hx 1 _ b rfl rfl) Try.underlying45
    simp only [avs, avsAll, h0.1, h1.1, toArr, aC]
    rfl
theorem labels_of (k : HasTy Try.prog n 46 d) : ∃ nl, avs d = [.ro nl (elts (dElems d))] ∧ Row h 1 (.ro nl (elts (dElems d))) (((dElems d).map dInt).map lC) := by
  obtain ⟨m, nl, h1, -, h2⟩ := ty_slice k Try.underlying46
  exact ⟨nl, h1, rowF_elts h2 (fun x hx => (ty_int (h2 x hx) Try.underlying45).1) (fun a => ⟨rfl, rfl⟩)⟩
theorem arrs_of (k : HasTy Try.prog n 52 d) : ∃ nl, avs d = [.ro nl (elts (dElems d))] ∧ Row h 2 (.ro nl (elts (dElems d))) (((dElems d).map toArr).map aC) := by
  obtain ⟨m, nl, h1, -, h2⟩ := ty_slice k Try.underlying52
  exact ⟨nl, h1, rowF_elts h2 (fun x hx => arr_of (h2 x hx)) (fun a => ⟨rfl, rfl⟩)⟩
theorem code_of (k : HasTy Try.prog n 30 d) : ∃ nl, avs d = [.ro nl (elts (dElems d))] ∧ packE d (avs d) = .ro nl (elts (dElems d)) ∧ Row h 2 (.ro nl (elts (dElems d))) (((dElems d).map toInstr).map inC) ∧ ∀ y ∈ (dElems d).map toInstr, In64 y.op ∧ In64 y.a := by
  obtain ⟨m, nl, h1, h3, h2⟩ := ty_slice k Try.underlying30
  refine ⟨nl, h1, h3, rowF_elts h2 (fun x hx => (instr_of (h2 x hx)).1) (fun a => ⟨rfl, rfl⟩), fun y hy => ?_⟩
  obtain ⟨x, hx, rfl⟩ := List.mem_map.1 hy
  exact (instr_of (h2 x hx)).2
theorem func_of (k : HasTy Try.prog n 48 d) : FuncR h (toFunc d) (avs d) ∧ ((avs d).length = 6 ∧ (avs d).all AV.leaf = true) ∧ ∀ y ∈ (toFunc d).code, In64 y.op ∧ In64 y.a := by
  obtain ⟨m, ds, rfl, hl, hx⟩ := ty_struct k Try.underlying48
  match ds, hl, hx with
  | [l, p, r, a, b, c], _, hx =>
    have h0 := (ty_int (hx 0 _ l rfl rfl) Try.underlying45).1
    obtain ⟨n1, h1, k1⟩ := labels_of (h := h) (hx 1 _ p rfl rfl)
    obtain ⟨n2, h2, k2⟩ := labels_of (h := h) (hx 2 _ r rfl rfl)
    have h3 := (ty_int (hx 3 _ a rfl rfl) Try.underlying3).1
    have h4 := (ty_int (hx 4 _ b rfl rfl) Try.underlying3).1
    obtain ⟨n3, h5, -, k3, k4⟩ := code_of (h := h) (hx 5 _ c rfl rfl)
    have e1 : avs (.agg [l, p, r, a, b, c]) = [.int .u64 (dInt l), .ro n1 (elts (dElems p)), .ro n2 (elts (dElems r)), .int .i64 (dInt a), .int .i64 (dInt b), .ro n3 (elts (dElems c))] := by
      simp only [avs, avsAll, h0, h1, h2, h3, h4, h5]; rfl
    rw [e1]
    exact ⟨⟨_, _, _, rfl, k1, k2, k3⟩, ⟨rfl, rfl⟩, k4⟩
theorem funcs_of (k : HasTy Try.prog n 53 d) : ∃ nl, avs d = [.ro nl (elts (dElems d))] ∧ RowR h 6 FuncR (.ro nl (elts (dElems d))) ((dElems d).map toFunc) ∧ ∀ x ∈ (dElems d).map toFunc, ∀ y ∈ x.code, In64 y.op ∧ In64 y.a := by
  obtain ⟨m, nl, h1, -, h2⟩ := ty_slice k Try.underlying53
  refine ⟨nl, h1, rowR_elts h2 (fun x hx => (func_of (h2 x hx)).1) (fun x hx => (func_of (h := .leaf) (h2 x hx)).2.1), fun x hx => ?_⟩
  obtain ⟨z, hz, rfl⟩ := List.mem_map.1 hx
  exact (func_of (h := .leaf) (h2 z hz)).2.2
theorem mod_of (k : HasTy Try.prog n 55 d) : ∃ c, packE d (avs d) = .agg c ∧ ModR h (toMod d) c ∧ ∀ x ∈ (toMod d).funcs, ∀ y ∈ x.code, In64 y.op ∧ In64 y.a := by
  obtain ⟨m, ds, rfl, hl, hx⟩ := ty_struct k Try.underlying55
  match ds, hl, hx with
  | [g, a, c, f], _, hx =>
    obtain ⟨n1, h1, k1⟩ := labels_of (h := h) (hx 0 _ g rfl rfl)
    obtain ⟨n2, h2, k2⟩ := arrs_of (h := h) (hx 1 _ a rfl rfl)
    obtain ⟨n3, h3, k3⟩ := labels_of (h := h) (hx 2 _ c rfl rfl)
    obtain ⟨n4, h4, k4, k5⟩ := funcs_of (h := h) (hx 3 _ f rfl rfl)
    have e1 : avs (.agg [g, a, c, f]) = [.ro n1 (elts (dElems g)), .ro n2 (elts (dElems a)), .ro n3 (elts (dElems c)), .ro n4 (elts (dElems f))] := by
      simp only [avs, avsAll, h1, h2, h3, h4]; rfl
    exact ⟨_, rfl, by rw [e1]; exact ⟨_, _, _, _, rfl, k1, k2, k3, k4⟩, k5⟩
end
end Go.Ab
namespace Go.Proofs.Ytdpdlmjlahehoaa
open Go.ChangeShapes Go.WideShapes Go.ChangeAt Go.RowKit Go.Ab
section
variable {H : Type}
theorem bulk_pos' (d : DataW H) : 1 ≤ Rows.uptoBulk d := by
  cases d with
  | lit l => cases l <;> simp [Rows.uptoBulk]
  | _ => simp [Rows.uptoBulk]
theorem bulk_len' : ∀ (es : List (DataW H)), es.length ≤ Rows.uptoBulkAll es
  | [] => by simp [Rows.uptoBulkAll]
  | d :: r => by
    have h1 := bulk_pos' d
    have h2 := bulk_len' r
    simp only [Rows.uptoBulkAll, List.length_cons]
    omega
theorem bulk_mem' : ∀ (es : List (DataW H)) (x : DataW H), x ∈ es → Rows.uptoBulk x ≤ Rows.uptoBulkAll es
  | d :: r, x, h => by
    simp only [Rows.uptoBulkAll]
    rcases List.mem_cons.1 h with rfl | h
    · omega
    · have := bulk_mem' r x h; omega
theorem elems_len' (d : DataW H) : (dElems d).length ≤ Rows.uptoBulk d := by
  cases d with
  | slice es sp => have := bulk_len' es; simp only [dElems, Rows.uptoBulk]; omega
  | _ => simp [dElems]
theorem elems_mem' (d : DataW H) (x : DataW H) (h : x ∈ dElems d) : Rows.uptoBulk x ≤ Rows.uptoBulk d := by
  cases d with
  | slice es sp => have := bulk_mem' es x h; simp only [Rows.uptoBulk]; omega
  | _ => cases h
theorem func_small (d : DataW H) (h : Rows.uptoBulk d ≤ 2097152) : (toFunc d).small := by
  unfold toFunc
  split
  · rename_i l p r a b c
    simp only [Rows.uptoBulk, Rows.uptoBulkAll] at h
    have h1 := elems_len' p
    have h2 := elems_len' r
    have h3 := elems_len' c
    exact ⟨by simp only [List.length_map]; omega, by simp only [List.length_map]; omega, by simp only [List.length_map]; omega⟩
  · exact ⟨by simp, by simp, by simp⟩
theorem mod_small (d : DataW H) (h : Rows.uptoBulk d ≤ 2097152) : (toMod d).small := by
  unfold toMod
  split
  · rename_i g a c f
    simp only [Rows.uptoBulk, Rows.uptoBulkAll] at h
    have h1 := elems_len' g
    have h2 := elems_len' a
    have h3 := elems_len' c
    have h4 := elems_len' f
    refine ⟨by simp only [List.length_map]; omega, by simp only [List.length_map]; omega, by simp only [List.length_map]; omega, by simp only [List.length_map]; omega, fun x hx => ?_⟩
    obtain ⟨y, hy, rfl⟩ := List.mem_map.1 hx
    have := elems_mem' f y hy
    exact func_small y (by omega)
  · exact ⟨by simp, by simp, by simp, by simp, fun x hx => by cases hx⟩
end
end Go.Proofs.Ytdpdlmjlahehoaa
namespace Go.Proofs.Ytdpdlmjlahehoaa
open Go.ChangeShapes Go.WideShapes Go.ChangeAt Go.RowKit Go.Ab
theorem linkTwo_own : ownKnob Try.prog.godebug = none := by kernel_rfl
theorem plain55 : Plain Try.prog 10 55 = true := by kernel_rfl
set_option maxRecDepth 100000 in
theorem linkTwo_walk {H : Type} {enc : TypeId × Value → H} {W : World} {base : Nat} {v v' : Value} {d d' : DataW H} {ps ps' : List MemPlace} (hval : Value.okWide Try.prog W .any base 55 v) (hval' : Value.okWide Try.prog W .any base 55 v')
    (h : DataW.Trod enc Try.prog W 0 (fun _ => true) true 55 v d ps) (h' : DataW.Trod enc Try.prog W 0 (fun _ => true) true 55 v' d' ps') (hb : Rows.uptoBulk d ≤ 1048576) (hb' : Rows.uptoBulk d' ≤ 1048576) :
    Calls Try.prog 6 #[v, v'] W fun e w' => e = .returned (.bool true) ∧ Below W.heap.size W w' := by
  obtain ⟨fuel, hf⟩ := h
  obtain ⟨fuel', hf'⟩ := h'
  have hr := read_ok (ρ := fun _ _ => none) fuel 55 _ _ hf 10 plain55
  have hr' := read_ok (ρ := fun _ _ => none) fuel' 55 _ _ hf' 10 plain55
  obtain ⟨c, e1, k1, -⟩ := mod_of (h := .leaf) hr.1
  obtain ⟨c', e2, k2, k3⟩ := mod_of (h := .leaf) hr'.1
  have hv := packE_vr hr hval
  have hv' := packE_vr hr' hval'
  rw [e1] at hv
  rw [e2] at hv'
  exact run_ok prog_mixed tt_ok prog_ng kt_ok (linkTwo_run zero_ok (mod_small d (by omega)) (mod_small d' (by omega)) k1 k2 fun x hx y hy => (k3 x hx y hy).2) (CR.cons hv (CR.sole hv'))
set_option maxRecDepth 100000 in
theorem linkTwo_contract (H : Type) (enc : TypeId × Value → H) (W : World) (base : Nat) (args : Array Value) (ds gs : List (DataW H)) (before : List MemPlace)
    (hval : ∀ (j : Nat) t v, Try.f6.params[j]? = some t → args[j]? = some v → Value.okWide Try.prog W .any base t v)
    (hW : DataW.Whole enc Try.prog Try.f6.params.toList Rows.linkTwoSpec.vars false W args.toList ds gs before) (hk : Rows.uptoSmall H (ds ++ gs) = true) :
    Calls Try.prog 6 args W fun e W' => ∃ v, e = .returned v ∧ Rows.linkTwoSpec.post enc Try.prog Try.f6 false true false false W args v W' := by
  have hW' := hW
  have hlt := hW.lt
  obtain ⟨p, q, hA0, hV, rfl, hfz, hnd⟩ := hW
  have hA : DataW.TrodAll enc Try.prog W 0 (fun _ => true) true Try.f6.params.toList args.toList ds p := hA0
  rw [Try.params6] at hA hval
  obtain ⟨v0, vs0, d0, ds0, p0, q0, hargs, rfl, rfl, h0, r0⟩ := trodAll_cons hA
  obtain ⟨v1, vs1, d1, ds1, p1, q1, rfl, rfl, rfl, h1, r1⟩ := trodAll_cons r0
  obtain ⟨rfl, rfl, rfl⟩ := trodAll_nil r1
  obtain rfl : args = #[v0, v1] := by cases args; simp_all
  obtain ⟨rfl, rfl⟩ := trodVars_none hV
  clear hA0
  simp only [List.append_nil] at hW' hlt
  have hb := of_decide_eq_true hk
  simp only [List.append_nil, Rows.uptoBulkAll] at hb
  refine (linkTwo_walk (hval 0 55 v0 rfl rfl) (hval 1 55 v1 rfl rfl) h0 h1 (by omega) (by omega)).mono fun e W' ⟨he, bel⟩ => ?_
  subst he
  exact ⟨_, rfl, _, _, _, [], _, [], hW', trodAll_mk1 (shut_bool Try.underlying4 _), trodAll_cons_mk (Below.trod (by kernel_rfl) (by kernel_rfl) (of_decide_eq_true (by kernel_rfl)) h0 bel (fun x hx => hlt x (List.mem_append.2 (.inl hx))))
    (trodAll_cons_mk (Below.trod (by kernel_rfl) (by kernel_rfl) (of_decide_eq_true (by kernel_rfl)) h1 bel (fun x hx => hlt x (List.mem_append.2 (.inr hx)))) trodAll_mk0), rfl, bel.frame _, fun h => by cases h⟩
set_option maxRecDepth 100000 in
theorem linkTwo_lifted (os : Os) (started : os.Started) (H : Type) (enc : TypeId × Value → H) (F : Stop.Interp) :
    ReturnsInHanded {} Try.checked os 6 .any ((Rows.OpenSpec.upto Rows.linkTwoSpec).pre6 enc Try.prog Try.f6 Rows.linkTwoUptoRow.domain false) (((Rows.OpenSpec.upto Rows.linkTwoSpec).at F).post enc Try.prog Try.f6 false true false false) := by
  refine returnsInHanded_of_cond (C := Try.checked) (s := Rows.OpenSpec.upto Rows.linkTwoSpec) (k := Rows.uptoSmall) rfl linkTwo_own started (by kernel_rfl) Try.func6
    (OpenSpec.witness (enc := enc) (C := Try.checked) (s := Rows.OpenSpec.upto Rows.linkTwoSpec) (k := Rows.uptoSmall) rfl false ⟨#[], #[.agg #[.slice none 0 0, .slice none 0 0, .slice none 0 0, .slice none 0 0], .agg #[.slice none 0 0, .slice none 0 0, .slice none 0 0, .slice none 0 0]], []⟩ 8 (by kernel_rfl) (by kernel_rfl) (by kernel_rfl)
      (x := ([.agg [.nil, .nil, .nil, .nil], .agg [.nil, .nil, .nil, .nil]], [], [])) (by kernel_rfl) rfl (by kernel_rfl)) ?_
  intro W base args ds gs before hval hW _ hk _
  exact linkTwo_contract H enc W base args ds gs before hval hW hk
theorem linkTwoUpto_holds : Rows.LinkTwoUptoSaid :=
  OpenClaim.holds_of_cond 6 Try.f6 rfl rfl rfl rfl rfl rfl rfl ⟨rfl, rfl, rfl, rfl, rfl⟩ rfl rfl rfl rfl rfl (by kernel_rfl) Try.func6 (by kernel_rfl)
    (of_decide_eq_true (by kernel_rfl)) (by unfold Func.isWrapper; first | (rw [if_pos (by decide +kernel)]; kernel_rfl) | (rw [if_neg (by decide +kernel)]; exact ⟨rfl, rfl⟩))
    (fun os started H enc _ F => linkTwo_lifted os started H enc F)
end Go.Proofs.Ytdpdlmjlahehoaa
