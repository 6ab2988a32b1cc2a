/- Parts of one proof, put together: D26 D27 D28 H22 D29 D30 D31 N1 N3 D32 D33 H23 D36 D37 H24 N4 D38 N5 D39 D40. -/
import Derived.Test.YtdpdlmjlahehoaaTrimCode2
/- Lists that were handed out are written over: they are apart. -/
namespace Go.Ab
open Go.Proofs
theorem fillS1 {a : AV} (ha : a.leaf = true) : fillA (fun n => some (n * 1, 1)) [AV.nils] [(0, a)] = some [a] := by
  simp [fillA, AV.cells_leaf ha, over]
theorem natA_add (k : IntKind) (a b : Nat) : natA (.int k ((a : Int) + (b : Nat))) = some (a + b) := by
  have : ((a : Int) + (b : Nat)) = ((a + b : Nat) : Int) := by omega
  rw [this]; exact natA_cast _ _
theorem finA_keep {X : List Nat} {s s' : St} {sz : Nat} {v : AV} {cs : List (List AV)} (hr : Row s.h sz v cs) (hk : Keep X s s') (hX : ∀ g ∈ v.gs, g ∉ X) : finA s'.h v = finA s.h v :=
  finA_same fun g hg => by
    obtain ⟨G, hG⟩ := hr.has g hg
    rw [hG]; exact hk.keep g (hX g hg) G hG
def mkL (i k : Nat) : Int := 1000 * (i : Int) + (k : Nat)
def tlL (i k : Nat) : Int := 500000 + 1000 * (i : Int) + (k : Nat)
def mkI (i k : Nat) : InstrL := ⟨1000 * (i : Int) + (k : Nat), 0⟩
def tlI (i k : Nat) : InstrL := ⟨500000 + 1000 * (i : Int) + (k : Nat), 0⟩
set_option maxRecDepth 10000 in
set_option maxHeartbeats 8000000 in
/-- Lists of numbers. -/
theorem apartInts_ok {s : St} {v : AV} {data : List (AV × List Int)} (hok : s.Ok) (hv : Row s.h 1 v (data.map fun p => [p.1])) (hvX : ∀ g ∈ v.gs, g ∉ data.flatMap (·.1.gs)) (hr : ∀ p ∈ data, Row s.h 1 p.1 (p.2.map iC)) (hd : (data.map (·.1)).Pairwise Dis) (hn : ∀ p ∈ data, p.1.gs = [] → p.1 = .nils)
    (hl1 : data.length ≤ 1000000) (hl2 : ∀ p ∈ data, p.2.length ≤ 2097152) : CallS Try.prog Tt Kt 25 [v] s (fun r s' => Keep (data.flatMap (·.1.gs)) s s' ∧ r = .bool true) := by
  have hb : ∀ p ∈ data, ∀ g ∈ p.1.gs, g < s.ctr := fun p hp => (hr p hp).lt hok
  refine call_of (fn := Try.f25) (nt := 125) Try.func25 rfl rfl rfl ?_
  repeat refine wc_seq ?_
  refine wc_region ?_
  refine w_val rfl rfl (op_pure rfl) ?_
  refine w_nil ?_
  refine then_n ?_
  repeat refine wc_seq ?_
  have hK := Keep.refl hok
  have hvl : v.slen = some data.length := hv.slenF
  have hI : RowsI s.h 1 iC data (MarkG mkL 0 0) := fun q p hq => ⟨p.2, rfl, hr p (List.mem_of_getElem? hq), MarkG.zero _ _ _⟩
  have hK : Keep (data.flatMap (·.1.gs)) s s := hK.more (fun g hg => by cases hg)
  refine wc_region ?_
  refine w_val rfl rfl (op_pure rfl) ?_
  refine w_nil ?_
  refine then_n ?_
  repeat refine wc_seq ?_
  refine wc_block ?_
  refine wc_loop_at (fun j m z => ∃ i : Nat, j = data.length - i ∧ i ≤ data.length ∧ m = [(0, v), (3, .int .i64 (i : Nat))] ∧ Keep (data.flatMap (·.1.gs)) s z ∧ RowsI z.h 1 iC data (MarkG mkL i 0)) data.length
    [(0, v), (3, .int .i64 ((0 : Nat) : Int))] (Sub.cons rfl (Sub.cons rfl (Sub.nil _))) ⟨0, by simp, by simp, rfl, hK, hI⟩ ?_
  clear hK hI
  rintro j m z ⟨i, rfl, hi, rfl, hK, hI⟩
  have hvz := hv.keep hK hvX
  repeat refine wc_seq ?_
  refine wc_region ?_
  refine w_val rfl rfl (op_pure rfl) ?_
  refine w_val rfl rfl (op_pure rfl) ?_
  refine w_val rfl rfl (op_len rfl rfl rfl rfl rfl (by assumption)) ?_
  refine w_val rfl rfl (op_pure rfl) ?_
  refine w_nil ?_
  refine then_n ?_
  repeat refine wc_seq ?_
  refine wc_condT rfl (fun h16 => ?_) (fun h16 => ?_)
  · simp only [decide_eq_true_eq] at h16
    refine wc_skip ?_
    refine then_n ?_
    repeat refine wc_seq ?_
    refine wc_block ?_
    repeat refine wc_seq ?_
    obtain ⟨p, hp⟩ : ∃ x, data[i]? = some x := ⟨_, List.getElem?_eq_getElem (by omega)⟩
    have hpm := List.mem_of_getElem? hp
    have hpl := hl2 p hpm
    refine wc_region ?_
    refine w_val rfl rfl (op_pure rfl) ?_
    refine w_nil ?_
    refine then_n ?_
    refine wc_block ?_
    refine wc_loop_at (fun j m z => ∃ k : Nat, j = p.2.length - k ∧ k ≤ p.2.length ∧ m = [(0, v), (3, .int .i64 (i : Nat)), (4, .int .i64 (k : Nat))] ∧ Keep (data.flatMap (·.1.gs)) s z ∧ RowsI z.h 1 iC data (MarkG mkL i k)) p.2.length
      [(0, v), (3, .int .i64 (i : Nat)), (4, .int .i64 ((0 : Nat) : Int))] (Sub.cons rfl (Sub.cons rfl (Sub.cons rfl (Sub.nil _)))) ⟨0, by simp, by simp, rfl, hK, hI⟩ ?_
    clear hK hI hvz
    rintro j1 m1 z ⟨k, rfl, hk, rfl, hK, hI⟩
    have hvz := hv.keep hK hvX
    obtain ⟨xs, hxl, hxr, hxG⟩ := hI i p hp
    have hxs : p.1.slen = some p.2.length := hxr.slenF.trans (congrArg some hxl)
    repeat refine wc_seq ?_
    refine wc_region ?_
    refine w_val rfl rfl (op_pure rfl) ?_
    refine w_val rfl rfl (op_pure rfl) ?_
    refine w_val rfl rfl (op_pure rfl) ?_
    refine w_val rfl rfl (op_idxF rfl rfl (natA_cast _ _) rfl rfl rfl rfl (by assumption) (by omega)) ?_
    refine w_val rfl rfl (op_load rfl rfl (Row.mk_pt hvz hp) rfl) ?_
    refine w_val rfl rfl (op_len rfl rfl rfl rfl rfl (by assumption)) ?_
    refine w_val rfl rfl (op_pure rfl) ?_
    refine w_nil ?_
    refine then_n ?_
    repeat refine wc_seq ?_
    refine wc_condT rfl (fun h25 => ?_) (fun h25 => ?_)
    · simp only [decide_eq_true_eq] at h25
      refine wc_skip ?_
      refine then_n ?_
      repeat refine wc_seq ?_
      refine wc_block ?_
      refine wc_region ?_
      refine w_val rfl rfl (op_pure rfl) ?_
      refine w_val rfl rfl (op_pure rfl) ?_
      refine w_val rfl rfl (op_idxF rfl rfl (natA_cast _ _) rfl rfl rfl rfl (by assumption) (by omega)) ?_
      refine w_val rfl rfl (op_load rfl rfl (Row.mk_pt hvz hp) rfl) ?_
      refine w_val rfl rfl (op_pure rfl) ?_
      refine w_val rfl rfl (op_pure rfl) ?_
      refine w_val rfl rfl (op_mul rfl rfl (by unfold In64; omega)) ?_
      refine w_val rfl rfl (op_pure rfl) ?_
      refine w_val rfl rfl (op_add rfl rfl (by unfold In64; omega)) ?_
      refine w_val rfl rfl (op_idxF rfl rfl (natA_cast _ _) rfl rfl rfl rfl hxr (by omega)) ?_
      refine w_store_row rfl rfl rfl rfl rfl rfl rfl hK.ok hxr (fun e => by have := hn p hpm e; rw [this] at hxr; have h0 := congrArg List.length (show xs.map iC = [] from hxr); rw [List.length_map, List.length_nil] at h0; omega) (by rw [List.length_map]; omega) ?_
      intro zz hx2 hk2 hc2
      have hI := hI.upd hd hp hk2 (xs := xs.set k (mkL i k)) (G' := MarkG mkL i (k + 1)) (by rw [List.map_set]; exact hx2) (by rw [List.length_set]; exact hxl) (hxG.step (by omega)) (fun q xs hq h => h.other hq)
      have hK := hK.trans hk2 (fun g hg => .inl (List.mem_flatMap.2 ⟨p, hpm, hg⟩))
      clear hx2 hk2 hc2 hxr hxG
      refine w_nil ?_
      refine out_n ?_
      refine then_n ?_
      refine wc_region ?_
      refine w_val rfl rfl (op_pure rfl) ?_
      refine w_val rfl rfl (op_add rfl rfl (by unfold In64; omega)) ?_
      refine w_val rfl rfl (op_pure rfl) ?_
      refine w_nil ?_
      exact round_n _ _ (by omega) (Sub.cons rfl (Sub.cons rfl (Sub.cons rfl (Sub.nil _)))) ⟨k + 1, rfl, by omega, rfl, hK, hI⟩
    simp only [decide_eq_false_iff_not] at h25
    obtain rfl : k = p.2.length := by omega
    replace hI := hI.mono (G' := MarkG mkL (i + 1) 0) (fun q p' xs hq hx h => h.next fun e => by subst e; rw [hp] at hq; cases hq; omega)
    clear hxr hxG hxs
    refine wc_exit ?_
    repeat first | refine then_x ?_ | refine round_x ?_ | refine cut_x ?_ | refine out_x' (by decide) ?_
    refine out_x ?_
    refine out_n ?_
    refine then_n ?_
    refine wc_region ?_
    refine w_val rfl rfl (op_pure rfl) ?_
    refine w_val rfl rfl (op_add rfl rfl (by unfold In64; omega)) ?_
    refine w_val rfl rfl (op_pure rfl) ?_
    refine w_nil ?_
    exact round_n _ _ (by omega) (Sub.cons rfl (Sub.cons rfl (Sub.nil _))) ⟨i + 1, rfl, by omega, rfl, hK, hI⟩
  simp only [decide_eq_false_iff_not] at h16
  obtain rfl : i = data.length := by omega
  refine wc_exit ?_
  repeat first | refine then_x ?_ | refine round_x ?_ | refine cut_x ?_ | refine out_x' (by decide) ?_
  refine out_x ?_
  refine then_n ?_
  repeat refine wc_seq ?_
  have hcut := hK.ctr
  have hA : Ap2 s 1 iC data mkL tlL 0 z.ctr [] .nils z := ⟨hK, hI.mono fun q p xs hq _ h => h.1 (List.getElem?_eq_some_iff.1 hq).1, rfl, fun j w p h => (by simp at h), rfl, fun g hg => (by cases hg), fun _ => rfl, fun j w h => (by simp at h), ⟨hcut, Nat.le_refl _⟩⟩
  clear hI hK hvz
  refine wc_region ?_
  refine w_val rfl rfl (op_pure rfl) ?_
  refine w_nil ?_
  refine then_n ?_
  repeat refine wc_seq ?_
  refine wc_region ?_
  refine w_val rfl rfl (op_pure rfl) ?_
  refine w_nil ?_
  refine then_n ?_
  repeat refine wc_seq ?_
  refine wc_block ?_
  refine wc_loop_at (fun j m z => ∃ (i cut : Nat) (ms : List AV) (F : AV), j = data.length - i ∧ i ≤ data.length ∧ m = [(0, v), (5, F), (6, .int .i64 (i : Nat))] ∧ Ap2 s 1 iC data mkL tlL i cut ms F z) data.length
    [(0, v), (5, .nils), (6, .int .i64 ((0 : Nat) : Int))] (Sub.cons rfl (Sub.cons rfl (Sub.cons rfl (Sub.nil _)))) ⟨0, _, _, _, by simp, by simp, rfl, hA⟩ ?_
  clear hA hcut
  rintro j m z ⟨i, cut, ms, F, rfl, hi, rfl, hA⟩
  have hvz := hv.keep hA.K hvX
  have hcut := hA.cutb
  repeat refine wc_seq ?_
  refine wc_region ?_
  refine w_val rfl rfl (op_pure rfl) ?_
  refine w_val rfl rfl (op_pure rfl) ?_
  refine w_val rfl rfl (op_len rfl rfl rfl rfl rfl (by assumption)) ?_
  refine w_val rfl rfl (op_pure rfl) ?_
  refine w_nil ?_
  refine then_n ?_
  repeat refine wc_seq ?_
  refine wc_condT rfl (fun h41 => ?_) (fun h41 => ?_)
  · simp only [decide_eq_true_eq] at h41
    refine wc_skip ?_
    refine then_n ?_
    repeat refine wc_seq ?_
    refine wc_block ?_
    repeat refine wc_seq ?_
    obtain ⟨p, hp⟩ : ∃ x, data[i]? = some x := ⟨_, List.getElem?_eq_getElem (by omega)⟩
    have hpm := List.mem_of_getElem? hp
    have hpl := hl2 p hpm
    obtain ⟨xs, hxl, hxr, hxG⟩ := hA.old i p hp
    unfold FullG at hxG
    rw [hxl] at hxG
    rw [hxG] at hxr
    clear hxG hxl
    refine wc_region ?_
    refine w_val rfl rfl (op_pure rfl) ?_
    refine w_val rfl rfl (op_pure rfl) ?_
    refine w_val rfl rfl (op_idxF rfl rfl (natA_cast _ _) rfl rfl rfl rfl (by assumption) (by omega)) ?_
    refine w_val rfl rfl (op_load rfl rfl (Row.mk_pt hvz hp) rfl) ?_
    refine w_val rfl rfl (op_pure rfl) ?_
    refine w_nil ?_
    refine then_n ?_
    repeat refine wc_seq ?_
    refine wc_region ?_
    refine w_val rfl rfl (op_pure rfl) ?_
    refine w_nil ?_
    refine then_n ?_
    repeat refine wc_seq ?_
    refine wc_block ?_
    refine wc_loop_at (fun j m z => ∃ (k : Nat) (l : AV), j = 30 - k ∧ k ≤ 30 ∧ m = [(0, v), (5, F), (6, .int .i64 (i : Nat)), (7, l), (8, .int .i64 (k : Nat))] ∧ Ap2 s 1 iC data mkL tlL i cut ms F z ∧ Row z.h 1 p.1 ((fullM mkL i p.2.length).map iC) ∧ Row z.h 1 l ((fullM mkL i p.2.length ++ fullM tlL i k).map iC) ∧
        (∀ g ∈ l.gs, g ∈ p.1.gs ∨ cut ≤ g) ∧ (l.gs = [] → l = .nils) ∧ (∀ g ∈ p.1.gs, g ∈ l.gs → finA z.h p.1 ≤ finA z.h l)) 30
      [(0, v), (5, F), (6, .int .i64 (i : Nat)), (7, p.1), (8, .int .i64 ((0 : Nat) : Int))] (Sub.cons rfl (Sub.cons rfl (Sub.cons rfl (Sub.cons rfl (Sub.cons rfl (Sub.nil _)))))) ⟨0, p.1, by simp, by simp, rfl, hA, hxr, by simpa [fullM] using hxr, fun g hg => .inl hg, hn p hpm, fun g _ _ => Nat.le_refl _⟩ ?_
    clear hA hxr hvz
    rintro j1 m1 z ⟨k, l, rfl, hk, rfl, hA, hxr, hl, hlb, hln, hlf⟩
    have hcut := hA.cutb
    repeat refine wc_seq ?_
    refine wc_region ?_
    refine w_val rfl rfl (op_pure rfl) ?_
    refine w_val rfl rfl (op_pure rfl) ?_
    refine w_nil ?_
    refine then_n ?_
    repeat refine wc_seq ?_
    refine wc_condT rfl (fun h49 => ?_) (fun h49 => ?_)
    · simp only [decide_eq_true_eq] at h49
      refine wc_skip ?_
      refine then_n ?_
      repeat refine wc_seq ?_
      refine wc_block ?_
      refine wc_region ?_
      refine w_val rfl rfl (op_pure rfl) ?_
      refine w_val rfl rfl (op_pure rfl) ?_
      refine w_val rfl rfl (op_mul rfl rfl (by unfold In64; omega)) ?_
      refine w_val rfl rfl (op_add rfl rfl (by unfold In64; omega)) ?_
      refine w_val rfl rfl (op_pure rfl) ?_
      refine w_val rfl rfl (op_add rfl rfl (by unfold In64; omega)) ?_
      refine w_lit1 (c := [.int .i64 (500000 + 1000 * (i : Int) + (k : Nat))]) rfl rfl rfl rfl rfl rfl rfl (by decide) (by decide) rfl rfl rfl hA.K.ok ?_
      rintro b z1 hb1 hk1 hc1 hg1
      have hA := hA.grow hd hb hp hk1 (fun g hg => by cases hg) (fun xs h => h.keep0 hk1)
      have hfp : finA z1.h p.1 = finA z.h p.1 := finA_keep hxr hk1 (fun g _ h => by cases h)
      have hfl : finA z1.h l = finA z.h l := finA_keep hl hk1 (fun g _ h => by cases h)
      rw [← hfp, ← hfl] at hlf
      have hxr := hxr.keep0 hk1
      have hl := hl.keep0 hk1
      have hcz : cut ≤ z1.ctr := by have := hA.cutb; omega
      clear hfp hfl hk1 hc1 hg1
      refine w_appendK (sz := 1) (ns := [tlL i k].map iC) rfl rfl rfl rfl rfl rfl rfl rfl rfl rfl (by decide) hA.K.ok hl hln hb1 (by simp only [List.length_map, List.length_append, List.length_cons, List.length_nil, fullM_len, maxBytes]; omega) (by simp only [List.length_map, List.length_append, List.length_cons, List.length_nil, fullM_len, maxBytes]; omega) ?_
      rintro l2 z2 hl2' hk2 hc2 hg2 hn2 - hap
      rw [← List.map_append, List.append_assoc, show fullM tlL i k ++ [tlL i k] = fullM tlL i (k + 1) by simp [fullM, List.range_succ]] at hl2'
      have hlt := hxr.lt hA.K.ok
      obtain ⟨hx2, hfx⟩ := hap.rows hxr hlf
      have hlf2 : ∀ g ∈ p.1.gs, g ∈ l2.gs → finA z2.h p.1 ≤ finA z2.h l2 := fun g h1 h2 => by
        rcases hg2 with e | e
        · rw [e] at h2
          rw [hfx, hap.fin e (fun e0 => by rw [e0] at h2; cases h2)]
          exact Nat.le_trans (hlf g h1 h2) (Nat.le_add_right _ _)
        · rw [e] at h2; have := hlt g h1; rw [List.mem_singleton.1 h2] at this; omega
      have hlb2 : ∀ g ∈ l2.gs, g ∈ p.1.gs ∨ cut ≤ g := fun g h => by
        rcases hg2 with e | e
        · rw [e] at h; exact hlb g h
        · rw [e] at h; rw [List.mem_singleton.1 h]; exact .inr hcz
      have hA := hA.grow hd hb hp hk2 hlb (fun xs h => (hap.rows h hlf).1)
      clear hap hfx hxr hl hb1
      refine w_val rfl rfl (op_pure rfl) ?_
      refine w_nil ?_
      refine out_n ?_
      refine then_n ?_
      refine wc_region ?_
      refine w_val rfl rfl (op_pure rfl) ?_
      refine w_val rfl rfl (op_add rfl rfl (by unfold In64; omega)) ?_
      refine w_val rfl rfl (op_pure rfl) ?_
      refine w_nil ?_
      exact round_n _ _ (by omega) (Sub.cons rfl (Sub.cons rfl (Sub.cons rfl (Sub.cons rfl (Sub.cons rfl (Sub.nil _)))))) ⟨k + 1, l2, rfl, by omega, rfl, hA, hx2, hl2', hlb2, hn2, hlf2⟩
    simp only [decide_eq_false_iff_not] at h49
    obtain rfl : k = 30 := by omega
    refine wc_exit ?_
    repeat first | refine then_x ?_ | refine round_x ?_ | refine cut_x ?_ | refine out_x' (by decide) ?_
    refine out_x ?_
    refine then_n ?_
    refine wc_region ?_
    refine w_val rfl rfl (op_pure rfl) ?_
    refine w_val rfl rfl (op_pure rfl) ?_
    refine w_lit1 (c := [l]) rfl rfl rfl rfl rfl rfl rfl (by decide) (by decide) (fillS1 hl.leaf) (by simp only [List.all_cons, List.all_nil, hl.leaf]; rfl) rfl hA.K.ok ?_
    rintro b z1 hb1 hk1 hc1 -
    have hA := hA.grow hd hb hp hk1 (fun g hg => by cases hg) (fun xs h => h.keep0 hk1)
    have hl := hl.keep0 hk1
    clear hk1 hc1
    refine w_append rfl rfl rfl rfl rfl rfl rfl rfl rfl (by decide) hA.K.ok hA.rF hA.Fn hb1 (by rw [List.length_map, hA.len]; simp only [List.length_cons, List.length_nil, maxBytes]; omega) (by rw [List.length_map, hA.len]; simp only [List.length_cons, List.length_nil, maxBytes]; omega) ?_
    rintro F2 z2 hF2 hk2 - hg2 hn2 -
    have hA := hA.push hb hp hl hlb hF2 hk2 hg2 hn2
    refine w_val rfl rfl (op_pure rfl) ?_
    refine w_nil ?_
    refine out_n ?_
    refine then_n ?_
    refine wc_region ?_
    refine w_val rfl rfl (op_pure rfl) ?_
    refine w_val rfl rfl (op_add rfl rfl (by unfold In64; omega)) ?_
    refine w_val rfl rfl (op_pure rfl) ?_
    refine w_nil ?_
    exact round_n _ _ (by omega) (Sub.cons rfl (Sub.cons rfl (Sub.cons rfl (Sub.nil _)))) ⟨i + 1, _, _, F2, rfl, by omega, rfl, hA⟩
  simp only [decide_eq_false_iff_not] at h41
  obtain rfl : i = data.length := by omega
  refine wc_exit ?_
  repeat first | refine then_x ?_ | refine round_x ?_ | refine cut_x ?_ | refine out_x' (by decide) ?_
  refine out_x ?_
  refine then_n ?_
  repeat refine wc_seq ?_
  have hFz := hA.rF
  have hml := hA.len
  refine wc_region ?_
  refine w_val rfl rfl (op_pure rfl) ?_
  refine w_nil ?_
  refine then_n ?_
  repeat refine wc_seq ?_
  refine wc_block ?_
  refine wc_loop_at (fun j m z' => ∃ i : Nat, j = data.length - i ∧ i ≤ data.length ∧ m = [(0, v), (5, F), (9, .int .i64 (i : Nat))] ∧ z = z') data.length
    [(0, v), (5, F), (9, .int .i64 ((0 : Nat) : Int))] (Sub.cons rfl (Sub.cons rfl (Sub.cons rfl (Sub.nil _)))) ⟨0, by simp, by simp, rfl, rfl⟩ ?_
  rintro j m _ ⟨i, rfl, hi, rfl, rfl⟩
  repeat refine wc_seq ?_
  refine wc_region ?_
  refine w_val rfl rfl (op_pure rfl) ?_
  refine w_val rfl rfl (op_pure rfl) ?_
  refine w_val rfl rfl (op_len rfl rfl rfl rfl rfl (by assumption)) ?_
  refine w_val rfl rfl (op_pure rfl) ?_
  refine w_nil ?_
  refine then_n ?_
  repeat refine wc_seq ?_
  refine wc_condT rfl (fun h67 => ?_) (fun h67 => ?_)
  · simp only [decide_eq_true_eq] at h67
    refine wc_skip ?_
    refine then_n ?_
    repeat refine wc_seq ?_
    refine wc_block ?_
    repeat refine wc_seq ?_
    obtain ⟨p, hp⟩ : ∃ x, data[i]? = some x := ⟨_, List.getElem?_eq_getElem (by omega)⟩
    have hpm := List.mem_of_getElem? hp
    have hpl := hl2 p hpm
    obtain ⟨xs, hxl, hxr, hxG⟩ := hA.old i p hp
    unfold FullG at hxG
    rw [hxl] at hxG
    rw [hxG] at hxr
    clear hxG hxl
    have hxs : p.1.slen = some p.2.length := hxr.slenF.trans (by rw [fullM_len])
    obtain ⟨w, hw⟩ : ∃ x, ms[i]? = some x := ⟨_, List.getElem?_eq_getElem (by omega)⟩
    obtain ⟨hwr, -⟩ := hA.new i w p hw hp
    refine wc_region ?_
    refine w_val rfl rfl (op_pure rfl) ?_
    refine w_val rfl rfl (op_pure rfl) ?_
    refine w_val rfl rfl (op_idxF rfl rfl (natA_cast _ _) rfl rfl rfl rfl (by assumption) (by omega)) ?_
    refine w_val rfl rfl (op_load rfl rfl (Row.mk_pt hvz hp) rfl) ?_
    refine w_val rfl rfl (op_len rfl rfl rfl rfl rfl (by assumption)) ?_
    refine w_val rfl rfl (op_pure rfl) ?_
    refine w_nil ?_
    refine then_n ?_
    repeat refine wc_seq ?_
    refine wc_region ?_
    refine w_val rfl rfl (op_pure rfl) ?_
    refine w_nil ?_
    refine then_n ?_
    repeat refine wc_seq ?_
    refine wc_block ?_
    refine wc_loop_at (fun j m z' => ∃ k : Nat, j = p.2.length - k ∧ k ≤ p.2.length ∧ m = [(0, v), (5, F), (9, .int .i64 (i : Nat)), (10, .int .i64 (p.2.length : Nat)), (11, .int .i64 (k : Nat))] ∧ z = z') p.2.length
      [(0, v), (5, F), (9, .int .i64 (i : Nat)), (10, .int .i64 (p.2.length : Nat)), (11, .int .i64 ((0 : Nat) : Int))] (Sub.cons rfl (Sub.cons rfl (Sub.cons rfl (Sub.cons rfl (Sub.cons rfl (Sub.nil _)))))) ⟨0, by simp, by simp, rfl, rfl⟩ ?_
    rintro j1 m1 _ ⟨k, rfl, hk, rfl, rfl⟩
    repeat refine wc_seq ?_
    refine wc_region ?_
    refine w_val rfl rfl (op_pure rfl) ?_
    refine w_val rfl rfl (op_pure rfl) ?_
    refine w_val rfl rfl (op_pure rfl) ?_
    refine w_nil ?_
    refine then_n ?_
    repeat refine wc_seq ?_
    refine wc_condT rfl (fun h77 => ?_) (fun h77 => ?_)
    · simp only [decide_eq_true_eq] at h77
      refine wc_skip ?_
      refine then_n ?_
      repeat refine wc_seq ?_
      refine wc_block ?_
      repeat refine wc_seq ?_
      have hxk : (fullM mkL i p.2.length)[k]? = some (mkL i k) := fullM_get _ (by omega)
      have hwk : (fullM mkL i p.2.length ++ fullM tlL i 30)[k]? = some (mkL i k) := by rw [List.getElem?_append_left (by rw [fullM_len]; omega)]; exact hxk
      refine wc_region ?_
      refine w_val rfl rfl (op_pure rfl) ?_
      refine w_val rfl rfl (op_pure rfl) ?_
      refine w_val rfl rfl (op_idxF rfl rfl (natA_cast _ _) rfl rfl rfl rfl (by assumption) (by omega)) ?_
      refine w_val rfl rfl (op_load rfl rfl (Row.mk_pt hvz hp) rfl) ?_
      refine w_val rfl rfl (op_pure rfl) ?_
      refine w_val rfl rfl (op_idxF rfl rfl (natA_cast _ _) rfl rfl rfl rfl hxr (by rw [fullM_len]; omega)) ?_
      refine w_val rfl rfl (op_load rfl rfl (Row.mk_pt hxr hxk) rfl) ?_
      refine w_val rfl rfl (op_pure rfl) ?_
      refine w_val rfl rfl (op_mul rfl rfl (by unfold In64; omega)) ?_
      refine w_val rfl rfl (op_pure rfl) ?_
      refine w_val rfl rfl (op_add rfl rfl (by unfold In64; omega)) ?_
      refine w_val rfl rfl (op_int (v := .bool false) rfl rfl (by decide) (by simp [intA, mkL])) ?_
      refine w_val rfl rfl (op_pure rfl) ?_
      refine w_split (i := 92) rfl (fun h92 => ?_) (fun h92 => ?_)
      · cases h92
      skip
      refine w_val rfl rfl (op_pure rfl) ?_
      refine w_val rfl rfl (op_pure rfl) ?_
      refine w_val rfl rfl (op_idxF rfl rfl (natA_cast _ _) rfl rfl rfl rfl hFz (by omega)) ?_
      refine w_val rfl rfl (op_load rfl rfl (Row.mk_pt hFz hw) rfl) ?_
      refine w_val rfl rfl (op_pure rfl) ?_
      refine w_val rfl rfl (op_idxF rfl rfl (natA_cast _ _) rfl rfl rfl rfl hwr (by rw [List.length_append, fullM_len, fullM_len]; omega)) ?_
      refine w_val rfl rfl (op_load rfl rfl (Row.mk_pt hwr hwk) rfl) ?_
      refine w_val rfl rfl (op_pure rfl) ?_
      refine w_val rfl rfl (op_mul rfl rfl (by unfold In64; omega)) ?_
      refine w_val rfl rfl (op_pure rfl) ?_
      refine w_val rfl rfl (op_add rfl rfl (by unfold In64; omega)) ?_
      refine w_val rfl rfl (op_int (v := .bool false) rfl rfl (by decide) (by simp [intA, mkL])) ?_
      refine w_val rfl rfl (op_pure rfl) ?_
      refine w_nil ?_
      refine then_n ?_
      refine wc_condT rfl (fun h105 => ?_) (fun h105 => ?_)
      · cases h105
      skip
      refine wc_skip ?_
      refine out_n ?_
      refine then_n ?_
      refine wc_region ?_
      refine w_val rfl rfl (op_pure rfl) ?_
      refine w_val rfl rfl (op_add rfl rfl (by unfold In64; omega)) ?_
      refine w_val rfl rfl (op_pure rfl) ?_
      refine w_nil ?_
      exact round_n _ _ (by omega) (Sub.cons rfl (Sub.cons rfl (Sub.cons rfl (Sub.cons rfl (Sub.cons rfl (Sub.nil _)))))) ⟨k + 1, rfl, by omega, rfl, rfl⟩
    simp only [decide_eq_false_iff_not] at h77
    obtain rfl : k = p.2.length := by omega
    refine wc_exit ?_
    repeat first | refine then_x ?_ | refine round_x ?_ | refine cut_x ?_ | refine out_x' (by decide) ?_
    refine out_x ?_
    refine then_n ?_
    repeat refine wc_seq ?_
    refine wc_region ?_
    refine w_val rfl rfl (op_pure rfl) ?_
    refine w_nil ?_
    refine then_n ?_
    refine wc_block ?_
    refine wc_loop_at (fun j m z' => ∃ k : Nat, j = 30 - k ∧ k ≤ 30 ∧ m = [(0, v), (5, F), (9, .int .i64 (i : Nat)), (10, .int .i64 (p.2.length : Nat)), (12, .int .i64 (k : Nat))] ∧ z = z') 30
      [(0, v), (5, F), (9, .int .i64 (i : Nat)), (10, .int .i64 (p.2.length : Nat)), (12, .int .i64 ((0 : Nat) : Int))] (Sub.cons rfl (Sub.cons rfl (Sub.cons rfl (Sub.cons rfl (Sub.cons rfl (Sub.nil _)))))) ⟨0, by simp, by simp, rfl, rfl⟩ ?_
    rintro j1 m1 _ ⟨k, rfl, hk, rfl, rfl⟩
    repeat refine wc_seq ?_
    refine wc_region ?_
    refine w_val rfl rfl (op_pure rfl) ?_
    refine w_val rfl rfl (op_pure rfl) ?_
    refine w_nil ?_
    refine then_n ?_
    repeat refine wc_seq ?_
    refine wc_condT rfl (fun h107 => ?_) (fun h107 => ?_)
    · simp only [decide_eq_true_eq] at h107
      refine wc_skip ?_
      refine then_n ?_
      repeat refine wc_seq ?_
      refine wc_block ?_
      repeat refine wc_seq ?_
      have hwk : (fullM mkL i p.2.length ++ fullM tlL i 30)[p.2.length + k]? = some (tlL i k) := by rw [List.getElem?_append_right (by rw [fullM_len]; omega), fullM_len, Nat.add_sub_cancel_left]; exact fullM_get _ (by omega)
      refine wc_region ?_
      refine w_val rfl rfl (op_pure rfl) ?_
      refine w_val rfl rfl (op_pure rfl) ?_
      refine w_val rfl rfl (op_idxF rfl rfl (natA_cast _ _) rfl rfl rfl rfl hFz (by omega)) ?_
      refine w_val rfl rfl (op_load rfl rfl (Row.mk_pt hFz hw) rfl) ?_
      refine w_val rfl rfl (op_pure rfl) ?_
      refine w_val rfl rfl (op_pure rfl) ?_
      refine w_val rfl rfl (op_add rfl rfl (by unfold In64; omega)) ?_
      refine w_val rfl rfl (op_idxF (n := p.2.length + k) rfl rfl (natA_add _ _ _) rfl rfl rfl rfl hwr (by rw [List.length_append, fullM_len, fullM_len]; omega)) ?_
      refine w_val rfl rfl (op_load rfl rfl (Row.mk_pt hwr hwk) rfl) ?_
      refine w_val rfl rfl (op_pure rfl) ?_
      refine w_val rfl rfl (op_mul rfl rfl (by unfold In64; omega)) ?_
      refine w_val rfl rfl (op_add rfl rfl (by unfold In64; omega)) ?_
      refine w_val rfl rfl (op_pure rfl) ?_
      refine w_val rfl rfl (op_add rfl rfl (by unfold In64; omega)) ?_
      refine w_val rfl rfl (op_int (v := .bool false) rfl rfl (by decide) (by simp [intA, tlL])) ?_
      refine w_nil ?_
      refine then_n ?_
      refine wc_condT rfl (fun h124 => ?_) (fun h124 => ?_)
      · cases h124
      skip
      refine wc_skip ?_
      refine out_n ?_
      refine then_n ?_
      refine wc_region ?_
      refine w_val rfl rfl (op_pure rfl) ?_
      refine w_val rfl rfl (op_add rfl rfl (by unfold In64; omega)) ?_
      refine w_val rfl rfl (op_pure rfl) ?_
      refine w_nil ?_
      exact round_n _ _ (by omega) (Sub.cons rfl (Sub.cons rfl (Sub.cons rfl (Sub.cons rfl (Sub.cons rfl (Sub.nil _)))))) ⟨k + 1, rfl, by omega, rfl, rfl⟩
    simp only [decide_eq_false_iff_not] at h107
    obtain rfl : k = 30 := by omega
    refine wc_exit ?_
    repeat first | refine then_x ?_ | refine round_x ?_ | refine cut_x ?_ | refine out_x' (by decide) ?_
    refine out_x ?_
    refine out_n ?_
    refine then_n ?_
    refine wc_region ?_
    refine w_val rfl rfl (op_pure rfl) ?_
    refine w_val rfl rfl (op_add rfl rfl (by unfold In64; omega)) ?_
    refine w_val rfl rfl (op_pure rfl) ?_
    refine w_nil ?_
    exact round_n _ _ (by omega) (Sub.cons rfl (Sub.cons rfl (Sub.cons rfl (Sub.nil _)))) ⟨i + 1, rfl, by omega, rfl, rfl⟩
  simp only [decide_eq_false_iff_not] at h67
  obtain rfl : i = data.length := by omega
  refine wc_exit ?_
  repeat first | refine then_x ?_ | refine round_x ?_ | refine cut_x ?_ | refine out_x' (by decide) ?_
  refine out_x ?_
  refine then_n ?_
  repeat refine wc_seq ?_
  refine wc_region ?_
  refine w_val rfl rfl (op_pure rfl) ?_
  refine w_nil ?_
  refine then_n ?_
  refine wc_ret ?_
  repeat first | refine then_r ?_ | refine out_r ?_ | refine round_r ?_ | refine cut_r ?_ | refine sc_r ?_
  exact ⟨_, rfl, hA.K, rfl⟩
set_option maxRecDepth 10000 in
set_option maxHeartbeats 8000000 in
/-- Lists of instructions. -/
theorem apartCode_ok {s : St} {v : AV} {data : List (AV × List InstrL)} (hok : s.Ok) (hv : Row s.h 1 v (data.map fun p => [p.1])) (hvX : ∀ g ∈ v.gs, g ∉ data.flatMap (·.1.gs)) (hr : ∀ p ∈ data, Row s.h 2 p.1 (p.2.map inC)) (hd : (data.map (·.1)).Pairwise Dis) (hn : ∀ p ∈ data, p.1.gs = [] → p.1 = .nils)
    (hl1 : data.length ≤ 1000000) (hl2 : ∀ p ∈ data, p.2.length ≤ 2097152) : CallS Try.prog Tt Kt 24 [v] s (fun r s' => Keep (data.flatMap (·.1.gs)) s s' ∧ r = .bool true) := by
  have hb : ∀ p ∈ data, ∀ g ∈ p.1.gs, g < s.ctr := fun p hp => (hr p hp).lt hok
  refine call_of (fn := Try.f24) (nt := 130) Try.func24 rfl rfl rfl ?_
  repeat refine wc_seq ?_
  refine wc_region ?_
  refine w_val rfl rfl (op_pure rfl) ?_
  refine w_nil ?_
  refine then_n ?_
  repeat refine wc_seq ?_
  have hK := Keep.refl hok
  have hvl : v.slen = some data.length := hv.slenF
  have hI : RowsI s.h 2 inC data (MarkG mkI 0 0) := fun q p hq => ⟨p.2, rfl, hr p (List.mem_of_getElem? hq), MarkG.zero _ _ _⟩
  have hK : Keep (data.flatMap (·.1.gs)) s s := hK.more (fun g hg => by cases hg)
  refine wc_region ?_
  refine w_val rfl rfl (op_pure rfl) ?_
  refine w_nil ?_
  refine then_n ?_
  repeat refine wc_seq ?_
  refine wc_block ?_
  refine wc_loop_at (fun j m z => ∃ i : Nat, j = data.length - i ∧ i ≤ data.length ∧ m = [(0, v), (3, .int .i64 (i : Nat))] ∧ Keep (data.flatMap (·.1.gs)) s z ∧ RowsI z.h 2 inC data (MarkG mkI i 0)) data.length
    [(0, v), (3, .int .i64 ((0 : Nat) : Int))] (Sub.cons rfl (Sub.cons rfl (Sub.nil _))) ⟨0, by simp, by simp, rfl, hK, hI⟩ ?_
  clear hK hI
  rintro j m z ⟨i, rfl, hi, rfl, hK, hI⟩
  have hvz := hv.keep hK hvX
  repeat refine wc_seq ?_
  refine wc_region ?_
  refine w_val rfl rfl (op_pure rfl) ?_
  refine w_val rfl rfl (op_pure rfl) ?_
  refine w_val rfl rfl (op_len rfl rfl rfl rfl rfl (by assumption)) ?_
  refine w_val rfl rfl (op_pure rfl) ?_
  refine w_nil ?_
  refine then_n ?_
  repeat refine wc_seq ?_
  refine wc_condT rfl (fun h16 => ?_) (fun h16 => ?_)
  · simp only [decide_eq_true_eq] at h16
    refine wc_skip ?_
    refine then_n ?_
    repeat refine wc_seq ?_
    refine wc_block ?_
    repeat refine wc_seq ?_
    obtain ⟨p, hp⟩ : ∃ x, data[i]? = some x := ⟨_, List.getElem?_eq_getElem (by omega)⟩
    have hpm := List.mem_of_getElem? hp
    have hpl := hl2 p hpm
    refine wc_region ?_
    refine w_val rfl rfl (op_pure rfl) ?_
    refine w_nil ?_
    refine then_n ?_
    refine wc_block ?_
    refine wc_loop_at (fun j m z => ∃ k : Nat, j = p.2.length - k ∧ k ≤ p.2.length ∧ m = [(0, v), (3, .int .i64 (i : Nat)), (4, .int .i64 (k : Nat))] ∧ Keep (data.flatMap (·.1.gs)) s z ∧ RowsI z.h 2 inC data (MarkG mkI i k)) p.2.length
      [(0, v), (3, .int .i64 (i : Nat)), (4, .int .i64 ((0 : Nat) : Int))] (Sub.cons rfl (Sub.cons rfl (Sub.cons rfl (Sub.nil _)))) ⟨0, by simp, by simp, rfl, hK, hI⟩ ?_
    clear hK hI hvz
    rintro j1 m1 z ⟨k, rfl, hk, rfl, hK, hI⟩
    have hvz := hv.keep hK hvX
    obtain ⟨xs, hxl, hxr, hxG⟩ := hI i p hp
    have hxs : p.1.slen = some p.2.length := hxr.slenF.trans (congrArg some hxl)
    repeat refine wc_seq ?_
    refine wc_region ?_
    refine w_val rfl rfl (op_pure rfl) ?_
    refine w_val rfl rfl (op_pure rfl) ?_
    refine w_val rfl rfl (op_pure rfl) ?_
    refine w_val rfl rfl (op_idxF rfl rfl (natA_cast _ _) rfl rfl rfl rfl (by assumption) (by omega)) ?_
    refine w_val rfl rfl (op_load rfl rfl (Row.mk_pt hvz hp) rfl) ?_
    refine w_val rfl rfl (op_len rfl rfl rfl rfl rfl (by assumption)) ?_
    refine w_val rfl rfl (op_pure rfl) ?_
    refine w_nil ?_
    refine then_n ?_
    repeat refine wc_seq ?_
    refine wc_condT rfl (fun h25 => ?_) (fun h25 => ?_)
    · simp only [decide_eq_true_eq] at h25
      refine wc_skip ?_
      refine then_n ?_
      repeat refine wc_seq ?_
      refine wc_block ?_
      refine wc_region ?_
      refine w_val rfl rfl (op_pure rfl) ?_
      refine w_val rfl rfl (op_pure rfl) ?_
      refine w_val rfl rfl (op_idxF rfl rfl (natA_cast _ _) rfl rfl rfl rfl (by assumption) (by omega)) ?_
      refine w_val rfl rfl (op_load rfl rfl (Row.mk_pt hvz hp) rfl) ?_
      refine w_val rfl rfl (op_pure rfl) ?_
      refine w_val rfl rfl (op_pure rfl) ?_
      refine w_val rfl rfl (op_mul rfl rfl (by unfold In64; omega)) ?_
      refine w_val rfl rfl (op_pure rfl) ?_
      refine w_val rfl rfl (op_add rfl rfl (by unfold In64; omega)) ?_
      refine w_val rfl rfl (op_pure rfl) ?_
      refine w_val rfl rfl (op_idxF rfl rfl (natA_cast _ _) rfl rfl rfl rfl hxr (by omega)) ?_
      refine w_store_row rfl rfl rfl rfl rfl rfl rfl hK.ok hxr (fun e => by have := hn p hpm e; rw [this] at hxr; have h0 := congrArg List.length (show xs.map inC = [] from hxr); rw [List.length_map, List.length_nil] at h0; omega) (by rw [List.length_map]; omega) ?_
      intro zz hx2 hk2 hc2
      have hI := hI.upd hd hp hk2 (xs := xs.set k (mkI i k)) (G' := MarkG mkI i (k + 1)) (by rw [List.map_set]; exact hx2) (by rw [List.length_set]; exact hxl) (hxG.step (by omega)) (fun q xs hq h => h.other hq)
      have hK := hK.trans hk2 (fun g hg => .inl (List.mem_flatMap.2 ⟨p, hpm, hg⟩))
      clear hx2 hk2 hc2 hxr hxG
      refine w_nil ?_
      refine out_n ?_
      refine then_n ?_
      refine wc_region ?_
      refine w_val rfl rfl (op_pure rfl) ?_
      refine w_val rfl rfl (op_add rfl rfl (by unfold In64; omega)) ?_
      refine w_val rfl rfl (op_pure rfl) ?_
      refine w_nil ?_
      exact round_n _ _ (by omega) (Sub.cons rfl (Sub.cons rfl (Sub.cons rfl (Sub.nil _)))) ⟨k + 1, rfl, by omega, rfl, hK, hI⟩
    simp only [decide_eq_false_iff_not] at h25
    obtain rfl : k = p.2.length := by omega
    replace hI := hI.mono (G' := MarkG mkI (i + 1) 0) (fun q p' xs hq hx h => h.next fun e => by subst e; rw [hp] at hq; cases hq; omega)
    clear hxr hxG hxs
    refine wc_exit ?_
    repeat first | refine then_x ?_ | refine round_x ?_ | refine cut_x ?_ | refine out_x' (by decide) ?_
    refine out_x ?_
    refine out_n ?_
    refine then_n ?_
    refine wc_region ?_
    refine w_val rfl rfl (op_pure rfl) ?_
    refine w_val rfl rfl (op_add rfl rfl (by unfold In64; omega)) ?_
    refine w_val rfl rfl (op_pure rfl) ?_
    refine w_nil ?_
    exact round_n _ _ (by omega) (Sub.cons rfl (Sub.cons rfl (Sub.nil _))) ⟨i + 1, rfl, by omega, rfl, hK, hI⟩
  simp only [decide_eq_false_iff_not] at h16
  obtain rfl : i = data.length := by omega
  refine wc_exit ?_
  repeat first | refine then_x ?_ | refine round_x ?_ | refine cut_x ?_ | refine out_x' (by decide) ?_
  refine out_x ?_
  refine then_n ?_
  repeat refine wc_seq ?_
  have hcut := hK.ctr
  have hA : Ap2 s 2 inC data mkI tlI 0 z.ctr [] .nils z := ⟨hK, hI.mono fun q p xs hq _ h => h.1 (List.getElem?_eq_some_iff.1 hq).1, rfl, fun j w p h => (by simp at h), rfl, fun g hg => (by cases hg), fun _ => rfl, fun j w h => (by simp at h), ⟨hcut, Nat.le_refl _⟩⟩
  clear hI hK hvz
  refine wc_region ?_
  refine w_val rfl rfl (op_pure rfl) ?_
  refine w_nil ?_
  refine then_n ?_
  repeat refine wc_seq ?_
  refine wc_region ?_
  refine w_val rfl rfl (op_pure rfl) ?_
  refine w_nil ?_
  refine then_n ?_
  repeat refine wc_seq ?_
  refine wc_block ?_
  refine wc_loop_at (fun j m z => ∃ (i cut : Nat) (ms : List AV) (F : AV), j = data.length - i ∧ i ≤ data.length ∧ m = [(0, v), (5, F), (6, .int .i64 (i : Nat))] ∧ Ap2 s 2 inC data mkI tlI i cut ms F z) data.length
    [(0, v), (5, .nils), (6, .int .i64 ((0 : Nat) : Int))] (Sub.cons rfl (Sub.cons rfl (Sub.cons rfl (Sub.nil _)))) ⟨0, _, _, _, by simp, by simp, rfl, hA⟩ ?_
  clear hA hcut
  rintro j m z ⟨i, cut, ms, F, rfl, hi, rfl, hA⟩
  have hvz := hv.keep hA.K hvX
  have hcut := hA.cutb
  repeat refine wc_seq ?_
  refine wc_region ?_
  refine w_val rfl rfl (op_pure rfl) ?_
  refine w_val rfl rfl (op_pure rfl) ?_
  refine w_val rfl rfl (op_len rfl rfl rfl rfl rfl (by assumption)) ?_
  refine w_val rfl rfl (op_pure rfl) ?_
  refine w_nil ?_
  refine then_n ?_
  repeat refine wc_seq ?_
  refine wc_condT rfl (fun h42 => ?_) (fun h42 => ?_)
  · simp only [decide_eq_true_eq] at h42
    refine wc_skip ?_
    refine then_n ?_
    repeat refine wc_seq ?_
    refine wc_block ?_
    repeat refine wc_seq ?_
    obtain ⟨p, hp⟩ : ∃ x, data[i]? = some x := ⟨_, List.getElem?_eq_getElem (by omega)⟩
    have hpm := List.mem_of_getElem? hp
    have hpl := hl2 p hpm
    obtain ⟨xs, hxl, hxr, hxG⟩ := hA.old i p hp
    unfold FullG at hxG
    rw [hxl] at hxG
    rw [hxG] at hxr
    clear hxG hxl
    refine wc_region ?_
    refine w_val rfl rfl (op_pure rfl) ?_
    refine w_val rfl rfl (op_pure rfl) ?_
    refine w_val rfl rfl (op_idxF rfl rfl (natA_cast _ _) rfl rfl rfl rfl (by assumption) (by omega)) ?_
    refine w_val rfl rfl (op_load rfl rfl (Row.mk_pt hvz hp) rfl) ?_
    refine w_val rfl rfl (op_pure rfl) ?_
    refine w_nil ?_
    refine then_n ?_
    repeat refine wc_seq ?_
    refine wc_region ?_
    refine w_val rfl rfl (op_pure rfl) ?_
    refine w_nil ?_
    refine then_n ?_
    repeat refine wc_seq ?_
    refine wc_block ?_
    refine wc_loop_at (fun j m z => ∃ (k : Nat) (l : AV), j = 30 - k ∧ k ≤ 30 ∧ m = [(0, v), (5, F), (6, .int .i64 (i : Nat)), (7, l), (8, .int .i64 (k : Nat))] ∧ Ap2 s 2 inC data mkI tlI i cut ms F z ∧ Row z.h 2 p.1 ((fullM mkI i p.2.length).map inC) ∧ Row z.h 2 l ((fullM mkI i p.2.length ++ fullM tlI i k).map inC) ∧
        (∀ g ∈ l.gs, g ∈ p.1.gs ∨ cut ≤ g) ∧ (l.gs = [] → l = .nils) ∧ (∀ g ∈ p.1.gs, g ∈ l.gs → finA z.h p.1 ≤ finA z.h l)) 30
      [(0, v), (5, F), (6, .int .i64 (i : Nat)), (7, p.1), (8, .int .i64 ((0 : Nat) : Int))] (Sub.cons rfl (Sub.cons rfl (Sub.cons rfl (Sub.cons rfl (Sub.cons rfl (Sub.nil _)))))) ⟨0, p.1, by simp, by simp, rfl, hA, hxr, by simpa [fullM] using hxr, fun g hg => .inl hg, hn p hpm, fun g _ _ => Nat.le_refl _⟩ ?_
    clear hA hxr hvz
    rintro j1 m1 z ⟨k, l, rfl, hk, rfl, hA, hxr, hl, hlb, hln, hlf⟩
    have hcut := hA.cutb
    repeat refine wc_seq ?_
    refine wc_region ?_
    refine w_val rfl rfl (op_pure rfl) ?_
    refine w_val rfl rfl (op_pure rfl) ?_
    refine w_nil ?_
    refine then_n ?_
    repeat refine wc_seq ?_
    refine wc_condT rfl (fun h50 => ?_) (fun h50 => ?_)
    · simp only [decide_eq_true_eq] at h50
      refine wc_skip ?_
      refine then_n ?_
      repeat refine wc_seq ?_
      refine wc_block ?_
      refine wc_region ?_
      refine w_val rfl rfl (op_pure rfl) ?_
      refine w_val rfl rfl (op_pure rfl) ?_
      refine w_val rfl rfl (op_mul rfl rfl (by unfold In64; omega)) ?_
      refine w_val rfl rfl (op_add rfl rfl (by unfold In64; omega)) ?_
      refine w_val rfl rfl (op_pure rfl) ?_
      refine w_val rfl rfl (op_add rfl rfl (by unfold In64; omega)) ?_
      refine w_val rfl rfl (op_pure rfl) ?_
      refine w_lit1 (c := [.int .i64 (500000 + 1000 * (i : Int) + (k : Nat)), .int .i64 0]) rfl rfl rfl rfl rfl rfl rfl (by decide) (by decide) rfl rfl rfl hA.K.ok ?_
      rintro b z1 hb1 hk1 hc1 hg1
      have hA := hA.grow hd hb hp hk1 (fun g hg => by cases hg) (fun xs h => h.keep0 hk1)
      have hfp : finA z1.h p.1 = finA z.h p.1 := finA_keep hxr hk1 (fun g _ h => by cases h)
      have hfl : finA z1.h l = finA z.h l := finA_keep hl hk1 (fun g _ h => by cases h)
      rw [← hfp, ← hfl] at hlf
      have hxr := hxr.keep0 hk1
      have hl := hl.keep0 hk1
      have hcz : cut ≤ z1.ctr := by have := hA.cutb; omega
      clear hfp hfl hk1 hc1 hg1
      refine w_appendK (sz := 2) (ns := [tlI i k].map inC) rfl rfl rfl rfl rfl rfl rfl rfl rfl rfl (by decide) hA.K.ok hl hln hb1 (by simp only [List.length_map, List.length_append, List.length_cons, List.length_nil, fullM_len, maxBytes]; omega) (by simp only [List.length_map, List.length_append, List.length_cons, List.length_nil, fullM_len, maxBytes]; omega) ?_
      rintro l2 z2 hl2' hk2 hc2 hg2 hn2 - hap
      rw [← List.map_append, List.append_assoc, show fullM tlI i k ++ [tlI i k] = fullM tlI i (k + 1) by simp [fullM, List.range_succ]] at hl2'
      have hlt := hxr.lt hA.K.ok
      obtain ⟨hx2, hfx⟩ := hap.rows hxr hlf
      have hlf2 : ∀ g ∈ p.1.gs, g ∈ l2.gs → finA z2.h p.1 ≤ finA z2.h l2 := fun g h1 h2 => by
        rcases hg2 with e | e
        · rw [e] at h2
          rw [hfx, hap.fin e (fun e0 => by rw [e0] at h2; cases h2)]
          exact Nat.le_trans (hlf g h1 h2) (Nat.le_add_right _ _)
        · rw [e] at h2; have := hlt g h1; rw [List.mem_singleton.1 h2] at this; omega
      have hlb2 : ∀ g ∈ l2.gs, g ∈ p.1.gs ∨ cut ≤ g := fun g h => by
        rcases hg2 with e | e
        · rw [e] at h; exact hlb g h
        · rw [e] at h; rw [List.mem_singleton.1 h]; exact .inr hcz
      have hA := hA.grow hd hb hp hk2 hlb (fun xs h => (hap.rows h hlf).1)
      clear hap hfx hxr hl hb1
      refine w_val rfl rfl (op_pure rfl) ?_
      refine w_nil ?_
      refine out_n ?_
      refine then_n ?_
      refine wc_region ?_
      refine w_val rfl rfl (op_pure rfl) ?_
      refine w_val rfl rfl (op_add rfl rfl (by unfold In64; omega)) ?_
      refine w_val rfl rfl (op_pure rfl) ?_
      refine w_nil ?_
      exact round_n _ _ (by omega) (Sub.cons rfl (Sub.cons rfl (Sub.cons rfl (Sub.cons rfl (Sub.cons rfl (Sub.nil _)))))) ⟨k + 1, l2, rfl, by omega, rfl, hA, hx2, hl2', hlb2, hn2, hlf2⟩
    simp only [decide_eq_false_iff_not] at h50
    obtain rfl : k = 30 := by omega
    refine wc_exit ?_
    repeat first | refine then_x ?_ | refine round_x ?_ | refine cut_x ?_ | refine out_x' (by decide) ?_
    refine out_x ?_
    refine then_n ?_
    refine wc_region ?_
    refine w_val rfl rfl (op_pure rfl) ?_
    refine w_val rfl rfl (op_pure rfl) ?_
    refine w_lit1 (c := [l]) rfl rfl rfl rfl rfl rfl rfl (by decide) (by decide) (fillS1 hl.leaf) (by simp only [List.all_cons, List.all_nil, hl.leaf]; rfl) rfl hA.K.ok ?_
    rintro b z1 hb1 hk1 hc1 -
    have hA := hA.grow hd hb hp hk1 (fun g hg => by cases hg) (fun xs h => h.keep0 hk1)
    have hl := hl.keep0 hk1
    clear hk1 hc1
    refine w_append rfl rfl rfl rfl rfl rfl rfl rfl rfl (by decide) hA.K.ok hA.rF hA.Fn hb1 (by rw [List.length_map, hA.len]; simp only [List.length_cons, List.length_nil, maxBytes]; omega) (by rw [List.length_map, hA.len]; simp only [List.length_cons, List.length_nil, maxBytes]; omega) ?_
    rintro F2 z2 hF2 hk2 - hg2 hn2 -
    have hA := hA.push hb hp hl hlb hF2 hk2 hg2 hn2
    refine w_val rfl rfl (op_pure rfl) ?_
    refine w_nil ?_
    refine out_n ?_
    refine then_n ?_
    refine wc_region ?_
    refine w_val rfl rfl (op_pure rfl) ?_
    refine w_val rfl rfl (op_add rfl rfl (by unfold In64; omega)) ?_
    refine w_val rfl rfl (op_pure rfl) ?_
    refine w_nil ?_
    exact round_n _ _ (by omega) (Sub.cons rfl (Sub.cons rfl (Sub.cons rfl (Sub.nil _)))) ⟨i + 1, _, _, F2, rfl, by omega, rfl, hA⟩
  simp only [decide_eq_false_iff_not] at h42
  obtain rfl : i = data.length := by omega
  refine wc_exit ?_
  repeat first | refine then_x ?_ | refine round_x ?_ | refine cut_x ?_ | refine out_x' (by decide) ?_
  refine out_x ?_
  refine then_n ?_
  repeat refine wc_seq ?_
  have hFz := hA.rF
  have hml := hA.len
  refine wc_region ?_
  refine w_val rfl rfl (op_pure rfl) ?_
  refine w_nil ?_
  refine then_n ?_
  repeat refine wc_seq ?_
  refine wc_block ?_
  refine wc_loop_at (fun j m z' => ∃ i : Nat, j = data.length - i ∧ i ≤ data.length ∧ m = [(0, v), (5, F), (9, .int .i64 (i : Nat))] ∧ z = z') data.length
    [(0, v), (5, F), (9, .int .i64 ((0 : Nat) : Int))] (Sub.cons rfl (Sub.cons rfl (Sub.cons rfl (Sub.nil _)))) ⟨0, by simp, by simp, rfl, rfl⟩ ?_
  rintro j m _ ⟨i, rfl, hi, rfl, rfl⟩
  repeat refine wc_seq ?_
  refine wc_region ?_
  refine w_val rfl rfl (op_pure rfl) ?_
  refine w_val rfl rfl (op_pure rfl) ?_
  refine w_val rfl rfl (op_len rfl rfl rfl rfl rfl (by assumption)) ?_
  refine w_val rfl rfl (op_pure rfl) ?_
  refine w_nil ?_
  refine then_n ?_
  repeat refine wc_seq ?_
  refine wc_condT rfl (fun h69 => ?_) (fun h69 => ?_)
  · simp only [decide_eq_true_eq] at h69
    refine wc_skip ?_
    refine then_n ?_
    repeat refine wc_seq ?_
    refine wc_block ?_
    repeat refine wc_seq ?_
    obtain ⟨p, hp⟩ : ∃ x, data[i]? = some x := ⟨_, List.getElem?_eq_getElem (by omega)⟩
    have hpm := List.mem_of_getElem? hp
    have hpl := hl2 p hpm
    obtain ⟨xs, hxl, hxr, hxG⟩ := hA.old i p hp
    unfold FullG at hxG
    rw [hxl] at hxG
    rw [hxG] at hxr
    clear hxG hxl
    have hxs : p.1.slen = some p.2.length := hxr.slenF.trans (by rw [fullM_len])
    obtain ⟨w, hw⟩ : ∃ x, ms[i]? = some x := ⟨_, List.getElem?_eq_getElem (by omega)⟩
    obtain ⟨hwr, -⟩ := hA.new i w p hw hp
    refine wc_region ?_
    refine w_val rfl rfl (op_pure rfl) ?_
    refine w_val rfl rfl (op_pure rfl) ?_
    refine w_val rfl rfl (op_idxF rfl rfl (natA_cast _ _) rfl rfl rfl rfl (by assumption) (by omega)) ?_
    refine w_val rfl rfl (op_load rfl rfl (Row.mk_pt hvz hp) rfl) ?_
    refine w_val rfl rfl (op_len rfl rfl rfl rfl rfl (by assumption)) ?_
    refine w_val rfl rfl (op_pure rfl) ?_
    refine w_nil ?_
    refine then_n ?_
    repeat refine wc_seq ?_
    refine wc_region ?_
    refine w_val rfl rfl (op_pure rfl) ?_
    refine w_nil ?_
    refine then_n ?_
    repeat refine wc_seq ?_
    refine wc_block ?_
    refine wc_loop_at (fun j m z' => ∃ k : Nat, j = p.2.length - k ∧ k ≤ p.2.length ∧ m = [(0, v), (5, F), (9, .int .i64 (i : Nat)), (10, .int .i64 (p.2.length : Nat)), (11, .int .i64 (k : Nat))] ∧ z = z') p.2.length
      [(0, v), (5, F), (9, .int .i64 (i : Nat)), (10, .int .i64 (p.2.length : Nat)), (11, .int .i64 ((0 : Nat) : Int))] (Sub.cons rfl (Sub.cons rfl (Sub.cons rfl (Sub.cons rfl (Sub.cons rfl (Sub.nil _)))))) ⟨0, by simp, by simp, rfl, rfl⟩ ?_
    rintro j1 m1 _ ⟨k, rfl, hk, rfl, rfl⟩
    repeat refine wc_seq ?_
    refine wc_region ?_
    refine w_val rfl rfl (op_pure rfl) ?_
    refine w_val rfl rfl (op_pure rfl) ?_
    refine w_val rfl rfl (op_pure rfl) ?_
    refine w_nil ?_
    refine then_n ?_
    repeat refine wc_seq ?_
    refine wc_condT rfl (fun h79 => ?_) (fun h79 => ?_)
    · simp only [decide_eq_true_eq] at h79
      refine wc_skip ?_
      refine then_n ?_
      repeat refine wc_seq ?_
      refine wc_block ?_
      repeat refine wc_seq ?_
      have hxk : (fullM mkI i p.2.length)[k]? = some (mkI i k) := fullM_get _ (by omega)
      have hwk : (fullM mkI i p.2.length ++ fullM tlI i 30)[k]? = some (mkI i k) := by rw [List.getElem?_append_left (by rw [fullM_len]; omega)]; exact hxk
      refine wc_region ?_
      refine w_val rfl rfl (op_pure rfl) ?_
      refine w_val rfl rfl (op_pure rfl) ?_
      refine w_val rfl rfl (op_idxF rfl rfl (natA_cast _ _) rfl rfl rfl rfl (by assumption) (by omega)) ?_
      refine w_val rfl rfl (op_load rfl rfl (Row.mk_pt hvz hp) rfl) ?_
      refine w_val rfl rfl (op_pure rfl) ?_
      refine w_val rfl rfl (op_idxF rfl rfl (natA_cast _ _) rfl rfl rfl rfl hxr (by rw [fullM_len]; omega)) ?_
      refine w_val rfl rfl (op_fld rfl rfl rfl rfl (by decide) (Row.mk_pt hxr hxk) (Nat.le_of_ble_eq_true rfl)) ?_
      refine w_val rfl rfl (op_load rfl rfl ((Row.mk_pt hxr hxk).fld _ (Nat.le_of_ble_eq_true rfl)) rfl) ?_
      refine w_val rfl rfl (op_pure rfl) ?_
      refine w_val rfl rfl (op_mul rfl rfl (by unfold In64; omega)) ?_
      refine w_val rfl rfl (op_pure rfl) ?_
      refine w_val rfl rfl (op_add rfl rfl (by unfold In64; omega)) ?_
      refine w_val rfl rfl (op_int (v := .bool false) rfl rfl (by decide) (by simp [intA, mkI])) ?_
      refine w_val rfl rfl (op_pure rfl) ?_
      refine w_split (i := 95) rfl (fun h95 => ?_) (fun h95 => ?_)
      · cases h95
      skip
      refine w_val rfl rfl (op_pure rfl) ?_
      refine w_val rfl rfl (op_pure rfl) ?_
      refine w_val rfl rfl (op_idxF rfl rfl (natA_cast _ _) rfl rfl rfl rfl hFz (by omega)) ?_
      refine w_val rfl rfl (op_load rfl rfl (Row.mk_pt hFz hw) rfl) ?_
      refine w_val rfl rfl (op_pure rfl) ?_
      refine w_val rfl rfl (op_idxF rfl rfl (natA_cast _ _) rfl rfl rfl rfl hwr (by rw [List.length_append, fullM_len, fullM_len]; omega)) ?_
      refine w_val rfl rfl (op_fld rfl rfl rfl rfl (by decide) (Row.mk_pt hwr hwk) (Nat.le_of_ble_eq_true rfl)) ?_
      refine w_val rfl rfl (op_load rfl rfl ((Row.mk_pt hwr hwk).fld _ (Nat.le_of_ble_eq_true rfl)) rfl) ?_
      refine w_val rfl rfl (op_pure rfl) ?_
      refine w_val rfl rfl (op_mul rfl rfl (by unfold In64; omega)) ?_
      refine w_val rfl rfl (op_pure rfl) ?_
      refine w_val rfl rfl (op_add rfl rfl (by unfold In64; omega)) ?_
      refine w_val rfl rfl (op_int (v := .bool false) rfl rfl (by decide) (by simp [intA, mkI])) ?_
      refine w_val rfl rfl (op_pure rfl) ?_
      refine w_nil ?_
      refine then_n ?_
      refine wc_condT rfl (fun h109 => ?_) (fun h109 => ?_)
      · cases h109
      skip
      refine wc_skip ?_
      refine out_n ?_
      refine then_n ?_
      refine wc_region ?_
      refine w_val rfl rfl (op_pure rfl) ?_
      refine w_val rfl rfl (op_add rfl rfl (by unfold In64; omega)) ?_
      refine w_val rfl rfl (op_pure rfl) ?_
      refine w_nil ?_
      exact round_n _ _ (by omega) (Sub.cons rfl (Sub.cons rfl (Sub.cons rfl (Sub.cons rfl (Sub.cons rfl (Sub.nil _)))))) ⟨k + 1, rfl, by omega, rfl, rfl⟩
    simp only [decide_eq_false_iff_not] at h79
    obtain rfl : k = p.2.length := by omega
    refine wc_exit ?_
    repeat first | refine then_x ?_ | refine round_x ?_ | refine cut_x ?_ | refine out_x' (by decide) ?_
    refine out_x ?_
    refine then_n ?_
    repeat refine wc_seq ?_
    refine wc_region ?_
    refine w_val rfl rfl (op_pure rfl) ?_
    refine w_nil ?_
    refine then_n ?_
    refine wc_block ?_
    refine wc_loop_at (fun j m z' => ∃ k : Nat, j = 30 - k ∧ k ≤ 30 ∧ m = [(0, v), (5, F), (9, .int .i64 (i : Nat)), (10, .int .i64 (p.2.length : Nat)), (12, .int .i64 (k : Nat))] ∧ z = z') 30
      [(0, v), (5, F), (9, .int .i64 (i : Nat)), (10, .int .i64 (p.2.length : Nat)), (12, .int .i64 ((0 : Nat) : Int))] (Sub.cons rfl (Sub.cons rfl (Sub.cons rfl (Sub.cons rfl (Sub.cons rfl (Sub.nil _)))))) ⟨0, by simp, by simp, rfl, rfl⟩ ?_
    rintro j1 m1 _ ⟨k, rfl, hk, rfl, rfl⟩
    repeat refine wc_seq ?_
    refine wc_region ?_
    refine w_val rfl rfl (op_pure rfl) ?_
    refine w_val rfl rfl (op_pure rfl) ?_
    refine w_nil ?_
    refine then_n ?_
    repeat refine wc_seq ?_
    refine wc_condT rfl (fun h111 => ?_) (fun h111 => ?_)
    · simp only [decide_eq_true_eq] at h111
      refine wc_skip ?_
      refine then_n ?_
      repeat refine wc_seq ?_
      refine wc_block ?_
      repeat refine wc_seq ?_
      have hwk : (fullM mkI i p.2.length ++ fullM tlI i 30)[p.2.length + k]? = some (tlI i k) := by rw [List.getElem?_append_right (by rw [fullM_len]; omega), fullM_len, Nat.add_sub_cancel_left]; exact fullM_get _ (by omega)
      refine wc_region ?_
      refine w_val rfl rfl (op_pure rfl) ?_
      refine w_val rfl rfl (op_pure rfl) ?_
      refine w_val rfl rfl (op_idxF rfl rfl (natA_cast _ _) rfl rfl rfl rfl hFz (by omega)) ?_
      refine w_val rfl rfl (op_load rfl rfl (Row.mk_pt hFz hw) rfl) ?_
      refine w_val rfl rfl (op_pure rfl) ?_
      refine w_val rfl rfl (op_pure rfl) ?_
      refine w_val rfl rfl (op_add rfl rfl (by unfold In64; omega)) ?_
      refine w_val rfl rfl (op_idxF (n := p.2.length + k) rfl rfl (natA_add _ _ _) rfl rfl rfl rfl hwr (by rw [List.length_append, fullM_len, fullM_len]; omega)) ?_
      refine w_val rfl rfl (op_fld rfl rfl rfl rfl (by decide) (Row.mk_pt hwr hwk) (Nat.le_of_ble_eq_true rfl)) ?_
      refine w_val rfl rfl (op_load rfl rfl ((Row.mk_pt hwr hwk).fld _ (Nat.le_of_ble_eq_true rfl)) rfl) ?_
      refine w_val rfl rfl (op_pure rfl) ?_
      refine w_val rfl rfl (op_mul rfl rfl (by unfold In64; omega)) ?_
      refine w_val rfl rfl (op_add rfl rfl (by unfold In64; omega)) ?_
      refine w_val rfl rfl (op_pure rfl) ?_
      refine w_val rfl rfl (op_add rfl rfl (by unfold In64; omega)) ?_
      refine w_val rfl rfl (op_int (v := .bool false) rfl rfl (by decide) (by simp [intA, tlI])) ?_
      refine w_nil ?_
      refine then_n ?_
      refine wc_condT rfl (fun h129 => ?_) (fun h129 => ?_)
      · cases h129
      skip
      refine wc_skip ?_
      refine out_n ?_
      refine then_n ?_
      refine wc_region ?_
      refine w_val rfl rfl (op_pure rfl) ?_
      refine w_val rfl rfl (op_add rfl rfl (by unfold In64; omega)) ?_
      refine w_val rfl rfl (op_pure rfl) ?_
      refine w_nil ?_
      exact round_n _ _ (by omega) (Sub.cons rfl (Sub.cons rfl (Sub.cons rfl (Sub.cons rfl (Sub.cons rfl (Sub.nil _)))))) ⟨k + 1, rfl, by omega, rfl, rfl⟩
    simp only [decide_eq_false_iff_not] at h111
    obtain rfl : k = 30 := by omega
    refine wc_exit ?_
    repeat first | refine then_x ?_ | refine round_x ?_ | refine cut_x ?_ | refine out_x' (by decide) ?_
    refine out_x ?_
    refine out_n ?_
    refine then_n ?_
    refine wc_region ?_
    refine w_val rfl rfl (op_pure rfl) ?_
    refine w_val rfl rfl (op_add rfl rfl (by unfold In64; omega)) ?_
    refine w_val rfl rfl (op_pure rfl) ?_
    refine w_nil ?_
    exact round_n _ _ (by omega) (Sub.cons rfl (Sub.cons rfl (Sub.cons rfl (Sub.nil _)))) ⟨i + 1, rfl, by omega, rfl, rfl⟩
  simp only [decide_eq_false_iff_not] at h69
  obtain rfl : i = data.length := by omega
  refine wc_exit ?_
  repeat first | refine then_x ?_ | refine round_x ?_ | refine cut_x ?_ | refine out_x' (by decide) ?_
  refine out_x ?_
  refine then_n ?_
  repeat refine wc_seq ?_
  refine wc_region ?_
  refine w_val rfl rfl (op_pure rfl) ?_
  refine w_nil ?_
  refine then_n ?_
  refine wc_ret ?_
  repeat first | refine then_r ?_ | refine out_r ?_ | refine round_r ?_ | refine cut_r ?_ | refine sc_r ?_
  exact ⟨_, rfl, hA.K, rfl⟩
end Go.Ab
/- Modules that were handed out. -/
namespace Go.Ab
open Go.Proofs
abbrev MD := ModL × MemM
structure Mods (h : Tr Grp) (data : List MD) : Prop where
  ok : ∀ q ∈ data, ModO h q.1 q.2
  small : ∀ q ∈ data, q.1.small ∧ q.1.funcs.length ≤ 1000
  dis : data.Pairwise fun p q => ∀ u ∈ p.2.all, ∀ w ∈ q.2.all, Dis u w
  len : data.length ≤ 100
section
variable {s s' : St} {data : List MD}
end
def fnD (q : MD) : AV × List (List AV) := (q.2.vf, q.2.fs.map fC)
theorem map_pair {data : List MD} : data.map (fun q => (q.2.vf, q.2.fs.map fC)) = data.map fnD := rfl
theorem hc2L {x y : AV} (hx : x.leaf = true) (hy : y.leaf = true) : ∀ c ∈ ([[x], [y]] : List (List AV)), c.length = 1 ∧ c.all AV.leaf = true := by
  intro c hc
  rcases List.mem_cons.1 hc with rfl | hc
  · simp [hx]
  · rw [List.mem_singleton.1 hc]; simp [hy]
section
variable {data : List MD} {i k : Nat} {q : MD} {f : FM} {s : St}
end
end Go.Ab
/- louverlaw27.LinkTwo. -/
namespace Go.Ab
open Go.Proofs
def anyC (F : Nat → Prop) : Chunk := ⟨F, fun _ => True, fun _ _ _ => trivial⟩
theorem SH.kill2 {s0 s s' : St} {L : List Chunk} {c d : Chunk} {Y : List Nat} (h : SH s0 L s) (i j : Nat) (hij : i ≠ j) (hi : L[i]? = some c) (hj : L[j]? = some d) (k : Keep Y s s') (hY : ∀ g ∈ Y, c.F g ∨ d.F g) : SH s0 (((L.set j emC).set i (anyC fun g => c.F g ∨ d.F g)).set i emC) s' := by
  have hg : ((L.set j emC).set i (anyC fun g => c.F g ∨ d.F g))[i]? = some (anyC fun g => c.F g ∨ d.F g) := by
    rw [List.getElem?_set_self]
    rw [List.length_set]
    exact (List.getElem?_eq_some_iff.1 hi).1
  exact (h.mrg i j hij hi hj (anyC fun g => c.F g ∨ d.F g) trivial fun g hg => hg).upd i hg k hY emC trivial fun g hg => hg.elim
end Go.Ab
/- A row under construction takes over what its new element owns. -/
namespace Go.Ab
section
variable {P : Program} {T : Tab} {K : FuncId → Option Bool} {nt : Nat} {ops : Array Oper} {rest : List Oper} {m : Sy} {s s0 : St} {Q : Sy → St → Prop} {d ty : Nat} {pos : String} {af : Array Edge} {g : Option (Nat × Bool)} {L : List Chunk} {α : Type}
end
end Go.Ab
/- Labels within labels; what Bind asks of two functions, and how it turns an instruction. -/
namespace Go.Ab
open Go.Proofs
end Go.Ab
/- link.Bind. -/
namespace Go.Ab
open Go.Proofs
end Go.Ab
/- The document's Bind. -/
namespace Go.Ab
open Go.Proofs
theorem snoc_map1 {α β : Type} {xs : List α} {k : Nat} {x : α} (h : xs[k]? = some x) (f : α → β) : (xs.take (k + 1)).map f = (xs.take k).map f ++ [f x] := by
  rw [← take_snoc h]; simp
end Go.Ab
/- Which functions a function calls, directly and through others. -/
namespace Go.Ab
open Go.Proofs
def CEdge (m : ModL) (a b : Nat) : Prop := ∃ x y, m.funcs[a]? = some x ∧ y ∈ x.code ∧ y.op = 45 ∧ y.a = (b : Int)
inductive Rch (m : ModL) (f : Nat) : Nat → Prop where
  | here : Rch m f f
  | step {a b : Nat} : Rch m f a → CEdge m a b → Rch m f b
/-- Is it marked? -/
def Tk (l : List Bool) (k : Nat) : Prop := l[k]? = some true
def cntF (l : List Bool) : Nat := l.countP (!·)
theorem cntF_set {l : List Bool} {a : Nat} (h : l[a]? = some false) : cntF (l.set a true) + 1 = cntF l := by
  obtain ⟨h1, h2⟩ := List.getElem?_eq_some_iff.1 h
  unfold cntF
  rw [List.countP_set h1, h2]
  have : 0 < l.countP (!·) := List.countP_pos_iff.2 ⟨false, List.mem_of_getElem? h, rfl⟩
  simp
  omega
theorem Tk_set {l : List Bool} {a k : Nat} (ha : a < l.length) : Tk (l.set a true) k ↔ (k = a ∨ Tk l k) := by
  unfold Tk
  rw [List.getElem?_set]
  by_cases e : a = k
  · subst e; simp [ha]
  · simp [e, Ne.symm e]
theorem not_Tk {l : List Bool} {a : Nat} (h : l[a]? = some false) : ¬ Tk l a := by unfold Tk; rw [h]; simp
/-- What a walk from a marks. -/
structure Dfs (m : ModL) (a : Nat) (l l' : List Bool) : Prop where
  len : l'.length = l.length
  mono : ∀ k, Tk l k → Tk l' k
  here : Tk l' a
  new : ∀ k, Tk l' k → ¬ Tk l k → Rch m a k ∧ ∀ b, CEdge m k b → Tk l' b
/-- What the walk over the instructions of a has marked; l1: a is marked too. -/
structure DfsI (m : ModL) (a : Nat) (x : FuncL) (l l1 : List Bool) (q : Nat) : Prop where
  len : l1.length = l.length
  mono : ∀ k, Tk l k → Tk l1 k
  here : Tk l1 a
  new : ∀ k, Tk l1 k → ¬ Tk l k → k ≠ a → Rch m a k ∧ ∀ b, CEdge m k b → Tk l1 b
  done : ∀ (i : Nat) (y : InstrL) (b : Nat), i < q → x.code[i]? = some y → y.op = 45 → y.a = (b : Int) → Tk l1 b
/-- The numbers of the marked ones. -/
def numL (l : List Bool) (k : Nat) : List Int := ((List.range k).filter fun i => l.getD i false).map fun i : Nat => (i : Int)
theorem numL_zero (l : List Bool) : numL l 0 = [] := rfl
def bC (b : Bool) : List AV := [.bool b]
end Go.Ab
/- Where an address of code comes to. -/
namespace Go.Ab
theorem pigeon : ∀ (n : Nat) (f : Nat → Nat), (∀ i, i ≤ n → f i < n) → ∃ i j, i < j ∧ j ≤ n ∧ f i = f j := by
  intro n
  induction n with
  | zero => intro f h; exact absurd (h 0 (Nat.le_refl _)) (Nat.not_lt_zero _)
  | succ n ih =>
    intro f h
    by_cases e : ∃ i, i ≤ n ∧ f i = f (n + 1)
    · obtain ⟨i, h1, h2⟩ := e
      exact ⟨i, n + 1, by omega, Nat.le_refl _, h2⟩
    · have hne : ∀ i, i ≤ n → f i ≠ f (n + 1) := fun i hi he => e ⟨i, hi, he⟩
      have hv := h (n + 1) (Nat.le_refl _)
      obtain ⟨i, j, h1, h2, h3⟩ := ih (fun i => if f i = n then f (n + 1) else f i) fun i hi => by
        have h1 := h i (by omega)
        have h2 := hne i hi
        split <;> omega
      refine ⟨i, j, h1, by omega, ?_⟩
      have k1 := hne i (by omega)
      have k2 := hne j h2
      split at h3 <;> split at h3 <;> omega
/-- The address behind one that is passed; none: it stops there. -/
def stepC (l : List InstrL) (a : Nat) : Option Nat := match l[a]? with
  | some y => if y.op = 42 then some (a + 1) else if y.op = 43 then some y.a.toNat else none
  | none => none
def iterC (l : List InstrL) (a : Nat) : Nat → Option Nat
  | 0 => some a
  | k + 1 => (iterC l a k).bind (stepC l)
def branchI (y : InstrL) : Bool := y.op == 43 || y.op == 44
def badI (n : Int) (y : InstrL) : Bool := branchI y && (decide (y.a < 0) || decide (n ≤ y.a))
def rightC (l : List InstrL) : Bool := match l.getLast? with
  | none => false
  | some z => (z.op == 43 || z.op == 46) && !l.any (badI l.length)
section
variable {l : List InstrL} {a b c k : Nat}
theorem rightC_jump (h : rightC l = true) {y : InstrL} (hy : y ∈ l) (ho : y.op = 43 ∨ y.op = 44) : 0 ≤ y.a ∧ y.a < (l.length : Int) := by
  unfold rightC at h
  split at h
  · cases h
  · simp only [Bool.and_eq_true, Bool.not_eq_true', List.any_eq_false] at h
    have := h.2 y hy
    have hb : branchI y = true := by unfold branchI; rcases ho with e | e <;> simp [e]
    unfold badI at this
    rw [hb] at this
    simp at this
    omega
theorem rightC_last (h : rightC l = true) (ha : a + 1 = l.length) {y : InstrL} (hy : l[a]? = some y) : y.op = 43 ∨ y.op = 46 := by
  unfold rightC at h
  split at h
  · cases h
  · rename_i z hz
    rw [List.getLast?_eq_getElem?, show l.length - 1 = a by omega, hy] at hz
    cases hz
    simp only [Bool.and_eq_true, Bool.or_eq_true, beq_iff_eq] at h
    exact h.1
theorem step_in (h : rightC l = true) (hs : stepC l a = some b) : b < l.length := by
  unfold stepC at hs
  split at hs
  · rename_i y hy
    have ha := (List.getElem?_eq_some_iff.1 hy).1
    split at hs
    · rename_i ho
      cases hs
      rcases Nat.lt_or_ge (a + 1) l.length with h1 | h1
      · exact h1
      · have := rightC_last h (by omega) hy; omega
    · split at hs
      · rename_i ho
        cases hs
        have := rightC_jump h (List.mem_of_getElem? hy) (.inl ho)
        omega
      · cases hs
  · cases hs
theorem iter_in (h : rightC l = true) (ha : a < l.length) : ∀ {k b}, iterC l a k = some b → b < l.length := by
  intro k
  cases k with
  | zero => intro b hb; cases hb; exact ha
  | succ k =>
    intro b hb
    unfold iterC at hb
    cases e : iterC l a k with
    | none => rw [e] at hb; cases hb
    | some c => rw [e] at hb; exact step_in h hb
theorem iter_some (h : iterC l a k = some b) : ∀ i, i ≤ k → ∃ c, iterC l a i = some c := by
  induction k generalizing b with
  | zero => intro i hi; obtain rfl : i = 0 := by omega
            exact ⟨a, rfl⟩
  | succ k ih =>
    intro i hi
    cases e : iterC l a k with
    | none => unfold iterC at h; rw [e] at h; cases h
    | some c =>
      by_cases hk : i = k + 1
      · subst hk; exact ⟨b, h⟩
      · exact ih e i (by omega)
theorem iter_add (i j m : Nat) (h : iterC l a i = iterC l a j) : iterC l a (i + m) = iterC l a (j + m) := by
  induction m with
  | zero => exact h
  | succ m ih => rw [← Nat.add_assoc, ← Nat.add_assoc]; unfold iterC; rw [ih]
/-- It goes round: it never stops. -/
theorem never {i j : Nat} (hij : i < j) (hj : iterC l a j = some b) (h : iterC l a i = iterC l a j) : ∀ k, ∃ c, iterC l a k = some c := by
  intro k
  induction k using Nat.strongRecOn with
  | _ k ih =>
    by_cases hk : k ≤ j
    · exact iter_some hj k hk
    · obtain ⟨c, hc⟩ := ih (k - (j - i)) (by omega)
      refine ⟨c, ?_⟩
      have := iter_add i j (k - j) h
      rw [show i + (k - j) = k - (j - i) by omega, show j + (k - j) = k by omega] at this
      rw [← this]; exact hc
theorem never_long (h : rightC l = true) (ha : a < l.length) (hk : l.length ≤ k) (hb : iterC l a k = some b) : ∀ k, ∃ c, iterC l a k = some c := by
  obtain ⟨i, j, h1, h2, h3⟩ := pigeon l.length (fun i => (iterC l a i).getD 0) fun i hi => by
    obtain ⟨c, hc⟩ := iter_some hb i (by omega)
    simp only [hc, Option.getD_some]
    exact iter_in h ha hc
  obtain ⟨c, hc⟩ := iter_some hb i (by omega)
  obtain ⟨d, hd⟩ := iter_some hb j (by omega)
  simp only [hc, hd, Option.getD_some] at h3
  subst h3
  exact never h1 hd (hc.trans hd.symm)
/-- Where it stops. -/
def Stop (l : List InstrL) (a b : Nat) : Prop := ∃ k, iterC l a k = some b ∧ stepC l b = none
theorem Stop.one {c : Nat} (h : Stop l a b) (h' : Stop l a c) : b = c := by
  obtain ⟨k, h1, h2⟩ := h
  obtain ⟨j, k1, k2⟩ := h'
  have key : ∀ {k j b c : Nat}, iterC l a k = some b → stepC l b = none → iterC l a j = some c → k < j → False := by
    intro k j b c h1 h2 k1 hlt
    obtain ⟨d, hd⟩ := iter_some k1 (k + 1) (by omega)
    unfold iterC at hd
    rw [h1] at hd
    rw [Option.bind_some, h2] at hd
    cases hd
  rcases Nat.lt_trichotomy k j with h | h | h
  · exact (key h1 h2 k1 h).elim
  · subst h; rw [h1] at k1; cases k1; rfl
  · exact (key k1 k2 h1 h).elim
theorem no_stop (h : ∀ k, ∃ c, iterC l a k = some c) : ¬ Stop l a b := by
  rintro ⟨k, h1, h2⟩
  obtain ⟨c, hc⟩ := h (k + 1)
  unfold iterC at hc
  rw [h1] at hc
  rw [Option.bind_some, h2] at hc
  cases hc
open Classical in
noncomputable def comesN (l : List InstrL) (a : Nat) : Nat := if h : ∃ b, Stop l a b then h.choose else a
theorem comesN_stop (h : Stop l a b) : comesN l a = b := by
  unfold comesN
  rw [dif_pos ⟨b, h⟩]
  exact Stop.one (Classical.choose_spec (⟨b, h⟩ : ∃ b, Stop l a b)) h
theorem comesN_never (h : ∀ k, ∃ c, iterC l a k = some c) : comesN l a = a := by
  unfold comesN
  rw [dif_neg]
  rintro ⟨b, hb⟩
  exact no_stop h hb
noncomputable def comesF (l : List InstrL) (a : Int) : Int := if rightC l = true ∧ 0 ≤ a ∧ a < (l.length : Int) then (comesN l a.toNat : Int) else -1
theorem comesF_no {a : Int} (h : rightC l = false ∨ a < 0 ∨ (l.length : Int) ≤ a) : comesF l a = -1 := by
  unfold comesF
  rw [if_neg]
  rintro ⟨h1, h2, h3⟩
  rcases h with h | h | h
  · rw [h] at h1; cases h1
  · omega
  · omega
theorem comesF_yes (h : rightC l = true) (ha : a < l.length) : comesF l (a : Nat) = (comesN l a : Int) := by
  unfold comesF
  rw [if_pos ⟨h, by omega, by omega⟩, Int.toNat_natCast]
theorem comesN_in (h : rightC l = true) (ha : a < l.length) : comesN l a < l.length := by
  by_cases e : ∃ b, Stop l a b
  · obtain ⟨b, hb⟩ := e
    rw [comesN_stop hb]
    obtain ⟨k, h1, -⟩ := hb
    exact iter_in h ha h1
  · unfold comesN; rw [dif_neg e]; exact ha
theorem iter_next {y : InstrL} (h : iterC l a k = some b) (_hy : l[b]? = some y) (hb : stepC l b = some c) : iterC l a (k + 1) = some c := by
  unfold iterC; rw [h]; exact hb
end
end Go.Ab
/- link.Needs, and the walk that it does. -/
namespace Go.Ab
open Go.Proofs
end Go.Ab
/- link.Needs. -/
namespace Go.Ab
section
variable {P : Program} {T : Tab} {K : FuncId → Option Bool} {nt : Nat} {ops : Array Oper} {rest : List Oper} {m : Sy} {s s0 : St} {Q : Sy → St → Prop} {d ty : Nat} {pos : String} {af : Array Edge} {g : Option (Nat × Bool)} {L : List Chunk}
theorem ws_mk {tt e : TypeId} {x y : Operand} {i ie : TI} {n sz : Nat} (hS : SH s0 L s) (hg : guardY ops m g = some true) (hd : Nat.ble (d + 1) nt = true) (hT : T tt = some i) (hs : i.sh = .slice e) (he : T e = some ie) (hx : evY m x = some (.int .i64 n)) (hy : evY m y = some (.int .i64 n))
    (hsz : ie.size = sz) (hz : ie.zero.length = ie.size) (h0 : ie.size ≠ 0) (hl : ie.zero.all AV.leaf = true) (hb : n * ie.bytes ≤ maxBytes) (hb' : n ≤ 140737488355328)
    (k : ∀ v s', SH s0 (L ++ [rowC v sz (List.replicate n ie.zero)]) s' → v.gs ≠ [] → Keep [] s s' → W P T K nt ops rest ((d, v) :: m) s' Q) : W P T K nt ops (⟨some d, .makeSlice tt x y, ty, pos, af, g⟩ :: rest) m s Q := by
  subst hsz
  exact w_make hg hd hT hs he hx hy hz h0 hl hb hb' hS.ok fun v s' hv hk hc hvg => k v s' (hS.add hk _ ⟨hv, fun h => by rw [hvg] at h; cases h⟩ (row_newb hk hv hvg hc)) (by rw [hvg]; simp) hk
end
open Go.Proofs
theorem rep_bC (n : Nat) : List.replicate n [AV.bool false] = (List.replicate n false).map bC := by simp [bC]
end Go.Ab
/- Scopes in which the code jumps back. -/
namespace Go.Ab
section
variable {P : Program} {T : Tab} {K : FuncId → Option Bool} {nt : Nat} {m : Sy} {s : St} {R : Ex → Sy → St → Prop} {b c X : Code}
/-- A scope's body from a place on. -/
def WSc (P : Program) (T : Tab) (K : FuncId → Option Bool) (nt : Nat) (b c : Code) (m : Sy) (s : St) (R : Ex → Sy → St → Prop) : Prop :=
  ∃ N e m' s', R e m' s' ∧ ∀ n k, N ≤ n → N ≤ k → ∀ t, Has t nt m → ∃ t', evCode.evScope T (evCallK P T K n) k b c t s = some (e, t', s') ∧ Has t' nt m'
/-- What stands behind a part of the body: a jump goes on with the rest behind the label. -/
def ScG (P : Program) (T : Tab) (K : FuncId → Option Bool) (nt : Nat) (b : Code) (R : Ex → Sy → St → Prop) : Ex → Sy → St → Prop
  | .goto l, m, s => ∃ rest, findLabel b l = some rest ∧ WSc P T K nt b rest m s R
  | e, m, s => R e m s
theorem wsc_of (h : WC P T K nt c m s (ScG P T K nt b R)) : WSc P T K nt b c m s R := by
  obtain ⟨N, e, m1, s1, hq, hn⟩ := h
  by_cases hg : ∃ l, e = .goto l
  · obtain ⟨l, rfl⟩ := hg
    obtain ⟨rest, hf, N', e', m', s', hq', hn'⟩ := hq
    refine ⟨max N N' + 1, e', m', s', hq', fun n k h1 h2 t ht => ?_⟩
    obtain ⟨k, rfl⟩ : ∃ j, k = j + 1 := ⟨k - 1, by omega⟩
    obtain ⟨t1, e1, ht1⟩ := hn n k (by omega) (by omega) t ht
    obtain ⟨t2, e2, ht2⟩ := hn' n k (by omega) (by omega) t1 ht1
    exact ⟨t2, by simp only [evCode.evScope, e1, hf, e2], ht2⟩
  · refine ⟨N + 1, e, m1, s1, ?_, fun n k h1 h2 t ht => ?_⟩
    · cases e <;> first | exact hq | exact (hg ⟨_, rfl⟩).elim
    · obtain ⟨k, rfl⟩ : ∃ j, k = j + 1 := ⟨k - 1, by omega⟩
      obtain ⟨t1, e1, ht1⟩ := hn n k (by omega) (by omega) t ht
      refine ⟨t1, ?_, ht1⟩
      simp only [evCode.evScope, e1]
      all_goals (cases e <;> first | rfl | exact (hg ⟨_, rfl⟩).elim)
theorem wc_scopeG (h : WC P T K nt b m s (ScG P T K nt b R)) : WC P T K nt (.scope b) m s R := by
  obtain ⟨N, e, m', s', hq, hn⟩ := wsc_of h
  refine ⟨N + 1, e, m', s', hq, fun n k h1 h2 t ht => ?_⟩
  obtain ⟨k, rfl⟩ : ∃ j, k = j + 1 := ⟨k - 1, by omega⟩
  obtain ⟨t', e1, ht'⟩ := hn n k (by omega) (by omega) t ht
  exact ⟨t', by simp only [evCode, e1], ht'⟩
/-- A round that ends in the jump. -/
def Gt (l : Nat) (I : Nat → Sy → St → Prop) (j : Nat) (R : Ex → Sy → St → Prop) : Ex → Sy → St → Prop
  | .goto l', m, s => l' = l ∧ ∃ i m', i < j ∧ Sub m' m ∧ I i m' s
  | e, m, s => R e m s
theorem wsc_sub {m' : Sy} (hs : Sub m' m) (h : WSc P T K nt b c m' s R) : WSc P T K nt b c m s R := by
  obtain ⟨N, e, m1, s', hq, hn⟩ := h
  exact ⟨N, e, m1, s', hq, fun n k h1 h2 t ht => hn n k h1 h2 t (ht.sub hs)⟩
theorem wc_goto_at {l : Nat} (I : Nat → Sy → St → Prop) (j : Nat) (m' : Sy) (hs : Sub m' m) (h0 : I j m' s) (hf : findLabel b l = some (.seq .skip X)) (hI : ∀ j m s, I j m s → WC P T K nt X m s (Gt l I j R)) : WC P T K nt (.seq (.label l) X) m s (ScG P T K nt b R) := by
  have key : ∀ (j : Nat) (m : Sy) (s : St), I j m s → WC P T K nt X m s (ScG P T K nt b R) := by
    intro j
    induction j using Nat.strongRecOn with
    | _ j ih =>
      intro m s hi
      refine wc_mono (hI j m s hi) fun e m1 s1 hq => ?_
      cases e with
      | goto l' =>
        obtain ⟨rfl, i, m2, hlt, hsub, hi'⟩ := hq
        exact ⟨_, hf, wsc_sub hsub (wsc_of (wc_seq (wc_skip (then_n (ih i hlt m2 s1 hi')))))⟩
      | _ => exact hq
  exact wc_sub hs (wc_seq (wc_label (then_n (key j m' s h0))))
theorem gt_g {l j : Nat} {I : Nat → Sy → St → Prop} (i : Nat) (m' : Sy) (hi : i < j) (hs : Sub m' m) (h : I i m' s) : Gt l I j R (.goto l) m s := ⟨rfl, i, m', hi, hs, h⟩
end
end Go.Ab
/- trim: which code is right, and where an address comes to. -/
namespace Go.Ab
open Go.Proofs
theorem natA_pred (k : IntKind) {n : Nat} (h : 0 < n) : natA (.int k ((n : Int) - 1)) = some (n - 1) := by
  have : ((n : Int) - 1) = ((n - 1 : Nat) : Int) := by omega
  rw [this]; exact natA_cast _ _
set_option maxRecDepth 10000 in
set_option maxHeartbeats 8000000 in
theorem rightI_ok {s : St} {y : InstrL} {pn : AV} {n : Int} (hok : s.Ok) (hpn : Pt s.h pn [.int .i64 n]) : CallS Try.prog Tt Kt 97 [.agg (inC y), pn] s (fun r s' => Keep [] s s' ∧ r = .bool (badI n y)) := by
  refine call_of (fn := Try.f97) (nt := 23) Try.func97 rfl rfl rfl ?_
  repeat refine wc_seq ?_
  have hS := SH.start hok
  refine wc_region ?_
  refine ws_box hS rfl rfl rfl (by rfl) ?_
  rintro p0 z hS hk
  have hS : SH _ [_] z := hS
  have hK := hS.K
  refine w_val rfl rfl (op_pure rfl) ?_
  refine w_nil ?_
  refine then_n ?_
  repeat refine wc_seq ?_
  refine wc_region ?_
  refine w_val rfl rfl (op_fldP rfl rfl rfl rfl (by decide)) ?_
  refine w_val rfl rfl (op_loadC 0 hS rfl rfl rfl (Nat.le_of_ble_eq_true rfl) rfl) ?_
  refine w_val rfl rfl (op_pure rfl) ?_
  refine w_val rfl rfl (op_pure rfl) ?_
  refine w_split (i := 7) rfl (fun h7 => ?_) (fun h7 => ?_)
  · simp only [beq_iff_eq] at h7
    refine w_off rfl rfl ?_
    refine w_off rfl rfl ?_
    refine w_off rfl rfl ?_
    refine w_val rfl rfl (op_pure rfl) ?_
    refine w_val rfl rfl (op_pure rfl) ?_
    refine w_val rfl rfl (op_fldP rfl rfl rfl rfl (by decide)) ?_
    refine w_val rfl rfl (op_loadC 0 hS rfl rfl rfl (Nat.le_of_ble_eq_true rfl) rfl) ?_
    refine w_val rfl rfl (op_pure rfl) ?_
    refine w_val rfl rfl (op_pure rfl) ?_
    refine w_split (i := 16) rfl (fun h16 => ?_) (fun h16 => ?_)
    · simp only [decide_eq_true_eq] at h16
      refine w_off rfl rfl ?_
      refine w_off rfl rfl ?_
      refine w_off rfl rfl ?_
      refine w_off rfl rfl ?_
      refine w_val rfl rfl (op_pure rfl) ?_
      refine w_val rfl rfl (op_pure rfl) ?_
      refine w_val rfl rfl (op_pure rfl) ?_
      refine w_nil ?_
      refine then_n ?_
      refine wc_ret ?_
      repeat first | refine then_r ?_ | refine out_r ?_ | refine round_r ?_ | refine cut_r ?_ | refine sc_r ?_
      exact ⟨_, rfl, hK, by first | (simp [badI, branchI, packA, h7, h16]; done) | (simp [badI, branchI, packA, h7, h12, h16]; done) | (simp [badI, branchI, packA, h7, h12]; done)⟩
    simp only [decide_eq_false_iff_not] at h16
    refine w_val rfl rfl (op_fldP rfl rfl rfl rfl (by decide)) ?_
    refine w_val rfl rfl (op_loadC 0 hS rfl rfl rfl (Nat.le_of_ble_eq_true rfl) rfl) ?_
    refine w_val rfl rfl (op_load rfl rfl (hpn.keep0 hK) rfl) ?_
    refine w_val rfl rfl (op_pure rfl) ?_
    refine w_val rfl rfl (op_pure rfl) ?_
    refine w_val rfl rfl (op_pure rfl) ?_
    refine w_val rfl rfl (op_pure rfl) ?_
    refine w_nil ?_
    refine then_n ?_
    refine wc_ret ?_
    repeat first | refine then_r ?_ | refine out_r ?_ | refine round_r ?_ | refine cut_r ?_ | refine sc_r ?_
    exact ⟨_, rfl, hK, by first | (simp [badI, branchI, packA, h7, h16]; done) | (simp [badI, branchI, packA, h7, h12, h16]; done) | (simp [badI, branchI, packA, h7, h12]; done)⟩
  simp only [beq_eq_false_iff_ne, ne_eq] at h7
  refine w_val rfl rfl (op_fldP rfl rfl rfl rfl (by decide)) ?_
  refine w_val rfl rfl (op_loadC 0 hS rfl rfl rfl (Nat.le_of_ble_eq_true rfl) rfl) ?_
  refine w_val rfl rfl (op_pure rfl) ?_
  refine w_val rfl rfl (op_pure rfl) ?_
  refine w_val rfl rfl (op_pure rfl) ?_
  refine w_split (i := 12) rfl (fun h12 => ?_) (fun h12 => ?_)
  · simp only [beq_iff_eq] at h12
    refine w_val rfl rfl (op_fldP rfl rfl rfl rfl (by decide)) ?_
    refine w_val rfl rfl (op_loadC 0 hS rfl rfl rfl (Nat.le_of_ble_eq_true rfl) rfl) ?_
    refine w_val rfl rfl (op_pure rfl) ?_
    refine w_val rfl rfl (op_pure rfl) ?_
    refine w_split (i := 16) rfl (fun h16 => ?_) (fun h16 => ?_)
    · simp only [decide_eq_true_eq] at h16
      refine w_off rfl rfl ?_
      refine w_off rfl rfl ?_
      refine w_off rfl rfl ?_
      refine w_off rfl rfl ?_
      refine w_val rfl rfl (op_pure rfl) ?_
      refine w_val rfl rfl (op_pure rfl) ?_
      refine w_val rfl rfl (op_pure rfl) ?_
      refine w_nil ?_
      refine then_n ?_
      refine wc_ret ?_
      repeat first | refine then_r ?_ | refine out_r ?_ | refine round_r ?_ | refine cut_r ?_ | refine sc_r ?_
      exact ⟨_, rfl, hK, by first | (simp [badI, branchI, packA, h7, h16]; done) | (simp [badI, branchI, packA, h12, h16]; done) | (simp [badI, branchI, packA, h7, h12]; done)⟩
    simp only [decide_eq_false_iff_not] at h16
    refine w_val rfl rfl (op_fldP rfl rfl rfl rfl (by decide)) ?_
    refine w_val rfl rfl (op_loadC 0 hS rfl rfl rfl (Nat.le_of_ble_eq_true rfl) rfl) ?_
    refine w_val rfl rfl (op_load rfl rfl (hpn.keep0 hK) rfl) ?_
    refine w_val rfl rfl (op_pure rfl) ?_
    refine w_val rfl rfl (op_pure rfl) ?_
    refine w_val rfl rfl (op_pure rfl) ?_
    refine w_val rfl rfl (op_pure rfl) ?_
    refine w_nil ?_
    refine then_n ?_
    refine wc_ret ?_
    repeat first | refine then_r ?_ | refine out_r ?_ | refine round_r ?_ | refine cut_r ?_ | refine sc_r ?_
    exact ⟨_, rfl, hK, by first | (simp [badI, branchI, packA, h7, h16]; done) | (simp [badI, branchI, packA, h12, h16]; done) | (simp [badI, branchI, packA, h7, h12]; done)⟩
  simp only [beq_eq_false_iff_ne, ne_eq] at h12
  refine w_off rfl rfl ?_
  refine w_off rfl rfl ?_
  refine w_off rfl rfl ?_
  refine w_off rfl rfl ?_
  refine w_off rfl rfl ?_
  refine w_off rfl rfl ?_
  refine w_off rfl rfl ?_
  refine w_off rfl rfl ?_
  refine w_off rfl rfl ?_
  refine w_val rfl rfl (op_pure rfl) ?_
  refine w_val rfl rfl (op_pure rfl) ?_
  refine w_nil ?_
  refine then_n ?_
  refine wc_ret ?_
  repeat first | refine then_r ?_ | refine out_r ?_ | refine round_r ?_ | refine cut_r ?_ | refine sc_r ?_
  exact ⟨_, rfl, hK, by first | (simp [badI, branchI, packA, h7, h16]; done) | (simp [badI, branchI, packA, h7, h12, h16]; done) | (simp [badI, branchI, packA, h7, h12]; done)⟩
set_option maxRecDepth 10000 in
set_option maxHeartbeats 8000000 in
theorem indexF_ok {s : St} {v : AV} {l : List InstrL} {gf : FuncId} {caps : List AV} {p : InstrL → Bool} (hok : s.Ok) (hv : Row s.h 2 v (l.map inC)) (hl : l.length ≤ 2097152)
    (hcl : ∀ (s' : St) (y : InstrL), y ∈ l → Keep [] s s' → CallS Try.prog Tt Kt gf (.agg (inC y) :: caps) s' (fun r s'' => Keep [] s' s'' ∧ r = .bool (p y))) : CallS Try.prog Tt Kt 112 [v, .fn gf caps] s (fun r s' => Keep [] s s' ∧ ∃ k : Int, r = .int .i64 k ∧ (0 ≤ k ↔ l.any p = true)) := by
  refine call_of (fn := Try.f112) (nt := 19) Try.func112 rfl rfl rfl ?_
  repeat refine wc_seq ?_
  have hK := Keep.refl hok
  refine wc_region ?_
  refine w_val rfl rfl (op_pure rfl) ?_
  refine w_nil ?_
  refine then_n ?_
  repeat refine wc_seq ?_
  refine wc_region ?_
  refine w_val rfl rfl (op_pure rfl) ?_
  refine w_val rfl rfl (op_len rfl rfl rfl rfl rfl hv.slenF) ?_
  refine w_val rfl rfl (op_pure rfl) ?_
  refine w_nil ?_
  refine then_n ?_
  repeat refine wc_seq ?_
  refine wc_block ?_
  refine wc_loop_at (fun j m z => ∃ k : Nat, j = l.length - k ∧ k ≤ l.length ∧ m = [(0, v), (1, .fn gf caps), (7, .int .i64 (l.length : Nat)), (8, .int .i64 (k : Nat))] ∧ Keep [] s z ∧ ∀ (j : Nat) (y : InstrL), j < k → l[j]? = some y → p y = false) l.length
    [(0, v), (1, .fn gf caps), (7, .int .i64 (l.length : Nat)), (8, .int .i64 ((0 : Nat) : Int))] (Sub.cons rfl (Sub.cons rfl (Sub.cons rfl (Sub.cons rfl (Sub.nil _))))) ⟨0, by simp, by simp, rfl, hK, fun j y h => by omega⟩ ?_
  clear hK
  rintro j m z ⟨k, rfl, hk, rfl, hK, hI⟩
  repeat refine wc_seq ?_
  refine wc_region ?_
  refine w_val rfl rfl (op_pure rfl) ?_
  refine w_nil ?_
  refine then_n ?_
  repeat refine wc_seq ?_
  refine wc_condT rfl (fun h9 => ?_) (fun h9 => ?_)
  · simp only [decide_eq_true_eq] at h9
    refine wc_skip ?_
    refine then_n ?_
    repeat refine wc_seq ?_
    refine wc_block ?_
    repeat refine wc_seq ?_
    refine wc_region ?_
    refine w_val rfl rfl (op_pure rfl) ?_
    refine w_val rfl rfl (op_pure rfl) ?_
    refine w_nil ?_
    refine then_n ?_
    repeat refine wc_seq ?_
    obtain ⟨y, hy⟩ : ∃ y, l[k]? = some y := ⟨_, List.getElem?_eq_getElem (by omega)⟩
    have hvz := hv.keep0 hK
    refine wc_region ?_
    refine w_val rfl rfl (op_pure rfl) ?_
    refine w_val rfl rfl (op_pure rfl) ?_
    refine w_val rfl rfl (op_pure rfl) ?_
    refine w_val rfl rfl (op_idxF rfl rfl (natA_cast _ _) rfl rfl rfl rfl hvz (by omega)) ?_
    refine w_val rfl rfl (op_load (v := .agg (inC y)) rfl rfl (Row.mk_pt hvz hy) rfl) ?_
    refine w_call rfl rfl (op_call rfl rfl rfl rfl) (hcl _ y (List.mem_of_getElem? hy) hK) ?_
    rintro _ z ⟨hk2, rfl⟩
    have hK := hK.two hk2
    refine w_nil ?_
    refine then_n ?_
    refine wc_condT rfl (fun h16 => ?_) (fun h16 => ?_)
    · have hA : l.any p = true := List.any_eq_true.2 ⟨y, List.mem_of_getElem? hy, h16⟩
      repeat refine wc_seq ?_
      refine wc_region ?_
      refine w_val rfl rfl (op_pure rfl) ?_
      refine w_val rfl rfl (op_pure rfl) ?_
      refine w_nil ?_
      refine then_n ?_
      refine wc_ret ?_
      repeat first | refine then_r ?_ | refine out_r ?_ | refine round_r ?_ | refine cut_r ?_ | refine sc_r ?_
      exact ⟨_, rfl, hK, _, rfl, ⟨fun _ => hA, fun _ => by omega⟩⟩
    skip
    refine wc_skip ?_
    refine out_n ?_
    refine then_n ?_
    refine wc_region ?_
    refine w_val rfl rfl (op_add rfl rfl (by unfold In64; omega)) ?_
    refine w_val rfl rfl (op_pure rfl) ?_
    refine w_nil ?_
    exact round_n _ _ (by omega) (Sub.cons rfl (Sub.cons rfl (Sub.cons rfl (Sub.cons rfl (Sub.nil _))))) ⟨k + 1, rfl, by omega, rfl, hK, fun j y2 hj h => (Nat.lt_succ_iff_lt_or_eq.1 hj).elim (fun h1 => hI j y2 h1 h) (fun e => by subst e; rw [hy] at h; cases h; exact h16)⟩
  simp only [decide_eq_false_iff_not] at h9
  obtain rfl : k = l.length := by omega
  refine wc_exit ?_
  repeat first | refine then_x ?_ | refine round_x ?_ | refine cut_x ?_ | refine out_x' (by decide) ?_
  refine out_x ?_
  refine then_n ?_
  repeat refine wc_seq ?_
  refine wc_region ?_
  refine w_val rfl rfl (op_pure rfl) ?_
  refine w_nil ?_
  refine then_n ?_
  refine wc_ret ?_
  repeat first | refine then_r ?_ | refine out_r ?_ | refine round_r ?_ | refine cut_r ?_ | refine sc_r ?_
  have hA : l.any p = false := by
    rw [List.any_eq_false]
    intro y hy
    obtain ⟨j, hj⟩ := List.getElem?_of_mem hy
    rw [hI j y (List.getElem?_eq_some_iff.1 hj).1 hj]
    simp
  exact ⟨_, rfl, hK, _, rfl, ⟨fun h => by omega, fun h => by rw [hA] at h; cases h⟩⟩
set_option maxRecDepth 10000 in
set_option maxHeartbeats 8000000 in
theorem containsF_ok {s : St} {v : AV} {l : List InstrL} {gf : FuncId} {caps : List AV} {p : InstrL → Bool} (hok : s.Ok) (hv : Row s.h 2 v (l.map inC)) (hl : l.length ≤ 2097152)
    (hcl : ∀ (s' : St) (y : InstrL), y ∈ l → Keep [] s s' → CallS Try.prog Tt Kt gf (.agg (inC y) :: caps) s' (fun r s'' => Keep [] s' s'' ∧ r = .bool (p y))) : CallS Try.prog Tt Kt 96 [v, .fn gf caps] s (fun r s' => Keep [] s s' ∧ r = .bool (l.any p)) := by
  refine call_of (fn := Try.f96) (nt := 9) Try.func96 rfl rfl rfl ?_
  repeat refine wc_seq ?_
  refine wc_region ?_
  refine w_val rfl rfl (op_pure rfl) ?_
  refine w_nil ?_
  refine then_n ?_
  repeat refine wc_seq ?_
  refine wc_region ?_
  refine w_val rfl rfl (op_pure rfl) ?_
  refine w_val rfl rfl (op_pure rfl) ?_
  refine w_call rfl rfl (op_call rfl rfl rfl rfl) (indexF_ok hok hv hl hcl) ?_
  rintro _ z ⟨hK, k, rfl, hk⟩
  refine w_val rfl rfl (op_pure rfl) ?_
  refine w_val rfl rfl (op_pure rfl) ?_
  refine w_nil ?_
  refine then_n ?_
  refine wc_ret ?_
  repeat first | refine then_r ?_ | refine out_r ?_ | refine round_r ?_ | refine cut_r ?_ | refine sc_r ?_
  exact ⟨_, rfl, hK, congrArg AV.bool (by rw [Bool.eq_iff_iff, decide_eq_true_iff]; exact hk)⟩
set_option maxRecDepth 10000 in
set_option maxHeartbeats 8000000 in
theorem right_code_ok {s : St} {v : AV} {l : List InstrL} (hok : s.Ok) (hv : Row s.h 2 v (l.map inC)) (hl : l.length ≤ 2097152) : CallS Try.prog Tt Kt 54 [v] s (fun r s' => Keep [] s s' ∧ r = .bool (rightC l)) := by
  refine call_of (fn := Try.f54) (nt := 30) Try.func54 rfl rfl rfl ?_
  repeat refine wc_seq ?_
  have hS := SH.start hok
  refine wc_region ?_
  refine w_val rfl rfl (op_pure rfl) ?_
  refine w_nil ?_
  refine then_n ?_
  repeat refine wc_seq ?_
  refine wc_region ?_
  refine w_val rfl rfl (op_pure rfl) ?_
  refine w_val rfl rfl (op_len rfl rfl rfl rfl rfl hv.slenF) ?_
  refine ws_alloc hS rfl rfl rfl rfl ?_
  rintro p0 z hS hk
  have hS : SH _ [_] z := hS
  have hK := hS.K
  refine ws_storeL 0 hS rfl rfl rfl rfl rfl rfl (by rfl) (Nat.le_of_ble_eq_true rfl) ?_
  rintro z hS
  have hS : SH _ [_] z := hS
  have hK := hS.K
  refine w_nil ?_
  refine then_n ?_
  repeat refine wc_seq ?_
  refine wc_region ?_
  refine w_val rfl rfl (op_loadC 0 hS rfl rfl rfl (Nat.le_of_ble_eq_true rfl) rfl) ?_
  refine w_val rfl rfl (op_pure rfl) ?_
  refine w_val rfl rfl (op_pure rfl) ?_
  refine w_split (i := 8) rfl (fun h8 => ?_) (fun h8 => ?_)
  · simp only [beq_iff_eq] at h8
    refine w_off rfl rfl ?_
    refine w_off rfl rfl ?_
    refine w_off rfl rfl ?_
    refine w_off rfl rfl ?_
    refine w_off rfl rfl ?_
    refine w_off rfl rfl ?_
    refine w_off rfl rfl ?_
    refine w_off rfl rfl ?_
    refine w_off rfl rfl ?_
    refine w_off rfl rfl ?_
    refine w_off rfl rfl ?_
    refine w_off rfl rfl ?_
    refine w_off rfl rfl ?_
    refine w_off rfl rfl ?_
    refine w_off rfl rfl ?_
    refine w_off rfl rfl ?_
    refine w_val rfl rfl (op_pure rfl) ?_
    refine w_nil ?_
    refine then_n ?_
    repeat refine wc_seq ?_
    refine wc_cond_t rfl ?_
    repeat refine wc_seq ?_
    refine wc_region ?_
    refine w_val rfl rfl (op_pure rfl) ?_
    refine w_nil ?_
    refine then_n ?_
    refine wc_ret ?_
    repeat first | refine then_r ?_ | refine out_r ?_ | refine round_r ?_ | refine cut_r ?_ | refine sc_r ?_
    have hnil : l = [] := List.eq_nil_of_length_eq_zero (by omega)
    exact ⟨_, rfl, hK, by rw [hnil]; rfl⟩
  simp only [beq_eq_false_iff_ne, ne_eq] at h8
  have hpos : 0 < l.length := by omega
  obtain ⟨y, hy⟩ : ∃ y, l[l.length - 1]? = some y := ⟨_, List.getElem?_eq_getElem (by omega)⟩
  have hvz := hv.keep0 hK
  have hla : l.getLast? = some y := by rw [List.getLast?_eq_getElem?]; exact hy
  refine w_val rfl rfl (op_pure rfl) ?_
  refine w_val rfl rfl (op_loadC 0 hS rfl rfl rfl (Nat.le_of_ble_eq_true rfl) rfl) ?_
  refine w_val rfl rfl (op_sub rfl rfl (by unfold In64; omega)) ?_
  refine w_val rfl rfl (op_idxF (n := l.length - 1) rfl rfl (natA_pred _ hpos) rfl rfl rfl rfl hvz (by omega)) ?_
  refine w_val rfl rfl (op_fld rfl rfl rfl rfl (by decide) (Row.mk_pt hvz hy) (Nat.le_of_ble_eq_true rfl)) ?_
  refine w_val rfl rfl (op_load rfl rfl ((Row.mk_pt hvz hy).fld _ (Nat.le_of_ble_eq_true rfl)) rfl) ?_
  refine w_val rfl rfl (op_pure rfl) ?_
  refine w_val rfl rfl (op_pure rfl) ?_
  refine w_split (i := 16) rfl (fun h16 => ?_) (fun h16 => ?_)
  · simp only [ne_eq, bne_iff_ne] at h16
    refine w_val rfl rfl (op_pure rfl) ?_
    refine w_val rfl rfl (op_loadC 0 hS rfl rfl rfl (Nat.le_of_ble_eq_true rfl) rfl) ?_
    refine w_val rfl rfl (op_sub rfl rfl (by unfold In64; omega)) ?_
    refine w_val rfl rfl (op_idxF (n := l.length - 1) rfl rfl (natA_pred _ hpos) rfl rfl rfl rfl hvz (by omega)) ?_
    refine w_val rfl rfl (op_fld rfl rfl rfl rfl (by decide) (Row.mk_pt hvz hy) (Nat.le_of_ble_eq_true rfl)) ?_
    refine w_val rfl rfl (op_load rfl rfl ((Row.mk_pt hvz hy).fld _ (Nat.le_of_ble_eq_true rfl)) rfl) ?_
    refine w_val rfl rfl (op_pure rfl) ?_
    refine w_val rfl rfl (op_pure rfl) ?_
    refine w_val rfl rfl (op_pure rfl) ?_
    refine w_nil ?_
    refine then_n ?_
    repeat refine wc_seq ?_
    refine wc_condT rfl (fun h25 => ?_) (fun h25 => ?_)
    · simp only [ne_eq, bne_iff_ne] at h25
      repeat refine wc_seq ?_
      refine wc_region ?_
      refine w_val rfl rfl (op_pure rfl) ?_
      refine w_nil ?_
      refine then_n ?_
      refine wc_ret ?_
      repeat first | refine then_r ?_ | refine out_r ?_ | refine round_r ?_ | refine cut_r ?_ | refine sc_r ?_
      exact ⟨_, rfl, hK, by unfold rightC; rw [hla]; first | (simp [packA, h16, h25]; done) | (simp [packA, h16]; done) | (simp [packA, h25]; done)⟩
    simp only [bne_eq_false_iff_eq] at h25
    refine wc_skip ?_
    refine then_n ?_
    repeat refine wc_seq ?_
    refine wc_region ?_
    refine w_val rfl rfl (op_pure rfl) ?_
    refine w_val rfl rfl (op_pure rfl) ?_
    refine w_call rfl rfl (op_call rfl rfl rfl rfl) (containsF_ok (p := badI l.length) hK.ok (hv.keep0 hK) hl (fun s' y _ hk => rightI_ok hk.ok ((hS.pt 0 rfl).keep0 hk))) ?_
    rintro _ z ⟨hk, rfl⟩
    have hK := hK.two hk
    refine w_val rfl rfl (op_pure rfl) ?_
    refine w_val rfl rfl (op_pure rfl) ?_
    refine w_nil ?_
    refine then_n ?_
    refine wc_ret ?_
    repeat first | refine then_r ?_ | refine out_r ?_ | refine round_r ?_ | refine cut_r ?_ | refine sc_r ?_
    exact ⟨_, rfl, hK, by unfold rightC; rw [hla]; first | (simp [packA, h25]; done) | (simp [packA, h16]; done) | (simp [packA, h25]; done)⟩
  simp only [bne_eq_false_iff_eq] at h16
  refine w_off rfl rfl ?_
  refine w_off rfl rfl ?_
  refine w_off rfl rfl ?_
  refine w_off rfl rfl ?_
  refine w_off rfl rfl ?_
  refine w_off rfl rfl ?_
  refine w_off rfl rfl ?_
  refine w_val rfl rfl (op_pure rfl) ?_
  refine w_val rfl rfl (op_pure rfl) ?_
  refine w_nil ?_
  refine then_n ?_
  repeat refine wc_seq ?_
  refine wc_cond_f rfl ?_
  refine wc_skip ?_
  refine then_n ?_
  repeat refine wc_seq ?_
  refine wc_region ?_
  refine w_val rfl rfl (op_pure rfl) ?_
  refine w_val rfl rfl (op_pure rfl) ?_
  refine w_call rfl rfl (op_call rfl rfl rfl rfl) (containsF_ok (p := badI l.length) hK.ok (hv.keep0 hK) hl (fun s' y _ hk => rightI_ok hk.ok ((hS.pt 0 rfl).keep0 hk))) ?_
  rintro _ z ⟨hk, rfl⟩
  have hK := hK.two hk
  refine w_val rfl rfl (op_pure rfl) ?_
  refine w_val rfl rfl (op_pure rfl) ?_
  refine w_nil ?_
  refine then_n ?_
  refine wc_ret ?_
  repeat first | refine then_r ?_ | refine out_r ?_ | refine round_r ?_ | refine cut_r ?_ | refine sc_r ?_
  exact ⟨_, rfl, hK, by unfold rightC; rw [hla]; first | (simp [packA, h16, h25]; done) | (simp [packA, h16]; done) | (simp [packA, h25]; done)⟩
set_option maxRecDepth 10000 in
set_option maxHeartbeats 8000000 in
theorem right_ref_code_ok {s : St} {v : AV} {l : List InstrL} (hok : s.Ok) (hv : Row s.h 2 v (l.map inC)) (hl : l.length ≤ 2097152) : CallS Try.prog Tt Kt 59 [v] s (fun r s' => Keep [] s s' ∧ r = .bool (rightC l)) := by
  refine call_of (fn := Try.f59) (nt := 54) Try.func59 rfl rfl rfl ?_
  repeat refine wc_seq ?_
  have hS := SH.start hok
  have hK := hS.K
  refine wc_region ?_
  refine w_val rfl rfl (op_pure rfl) ?_
  refine w_nil ?_
  refine then_n ?_
  repeat refine wc_seq ?_
  refine wc_region ?_
  refine w_val rfl rfl (op_pure rfl) ?_
  refine w_val rfl rfl (op_len rfl rfl rfl rfl rfl hv.slenF) ?_
  refine w_val rfl rfl (op_pure rfl) ?_
  refine w_nil ?_
  refine then_n ?_
  repeat refine wc_seq ?_
  refine wc_region ?_
  refine w_val rfl rfl (op_pure rfl) ?_
  refine w_val rfl rfl (op_pure rfl) ?_
  refine w_nil ?_
  refine then_n ?_
  repeat refine wc_seq ?_
  refine wc_condT rfl (fun h9 => ?_) (fun h9 => ?_)
  · simp only [beq_iff_eq] at h9
    repeat refine wc_seq ?_
    refine wc_region ?_
    refine w_val rfl rfl (op_pure rfl) ?_
    refine w_nil ?_
    refine then_n ?_
    refine wc_ret ?_
    repeat first | refine then_r ?_ | refine out_r ?_ | refine round_r ?_ | refine cut_r ?_ | refine sc_r ?_
    have hnil : l = [] := List.eq_nil_of_length_eq_zero (by omega)
    exact ⟨_, rfl, hK, by rw [hnil]; rfl⟩
  simp only [beq_eq_false_iff_ne, ne_eq] at h9
  refine wc_skip ?_
  refine then_n ?_
  repeat refine wc_seq ?_
  refine wc_region ?_
  refine w_val rfl rfl (op_pure rfl) ?_
  refine w_nil ?_
  refine then_n ?_
  repeat refine wc_seq ?_
  refine wc_block ?_
  refine wc_loop_at (fun j m z => ∃ k : Nat, j = l.length - k ∧ k ≤ l.length ∧ m = [(0, v), (3, .int .i64 (l.length : Nat)), (4, .int .i64 (k : Nat))] ∧ SH s [] z ∧ ∀ (j : Nat) (y : InstrL), j < k → l[j]? = some y → badI l.length y = false) l.length
    [(0, v), (3, .int .i64 (l.length : Nat)), (4, .int .i64 ((0 : Nat) : Int))] (Sub.cons rfl (Sub.cons rfl (Sub.cons rfl (Sub.nil _)))) ⟨0, by simp, by simp, rfl, hS, fun j y h => by omega⟩ ?_
  clear hS hK
  rintro j m z ⟨k, rfl, hk, rfl, hS, hI⟩
  have hK := hS.K
  repeat refine wc_seq ?_
  refine wc_region ?_
  refine w_val rfl rfl (op_pure rfl) ?_
  refine w_val rfl rfl (op_pure rfl) ?_
  refine w_val rfl rfl (op_pure rfl) ?_
  refine w_nil ?_
  refine then_n ?_
  repeat refine wc_seq ?_
  refine wc_condT rfl (fun h12 => ?_) (fun h12 => ?_)
  · simp only [decide_eq_true_eq] at h12
    refine wc_skip ?_
    refine then_n ?_
    repeat refine wc_seq ?_
    refine wc_block ?_
    repeat refine wc_seq ?_
    obtain ⟨y, hy⟩ : ∃ y, l[k]? = some y := ⟨_, List.getElem?_eq_getElem (by omega)⟩
    have hvz := hv.keep0 hK
    refine wc_region ?_
    refine w_val rfl rfl (op_pure rfl) ?_
    refine w_val rfl rfl (op_pure rfl) ?_
    refine w_val rfl rfl (op_idxF rfl rfl (natA_cast _ _) rfl rfl rfl rfl hvz (by omega)) ?_
    refine w_val rfl rfl (op_load (v := .agg (inC y)) rfl rfl (Row.mk_pt hvz hy) rfl) ?_
    refine ws_alloc hS rfl rfl rfl rfl ?_
    rintro p0 z hS hk
    have hS : SH _ [_] z := hS
    have hK := hS.K
    refine ws_store 0 hS rfl rfl rfl rfl rfl rfl (by rfl) (Nat.le_of_ble_eq_true rfl) ?_
    rintro z hS
    have hS : SH _ [_] z := hS
    have hK := hS.K
    refine w_nil ?_
    refine then_n ?_
    repeat refine wc_seq ?_
    refine wc_region ?_
    refine w_val rfl rfl (op_fldP rfl rfl rfl rfl (by decide)) ?_
    refine w_val rfl rfl (op_loadC 0 hS rfl rfl rfl (Nat.le_of_ble_eq_true rfl) rfl) ?_
    refine w_val rfl rfl (op_pure rfl) ?_
    refine w_val rfl rfl (op_pure rfl) ?_
    refine w_split (i := 22) rfl (fun h22 => ?_) (fun h22 => ?_)
    · simp only [beq_iff_eq] at h22
      refine w_off rfl rfl ?_
      refine w_off rfl rfl ?_
      refine w_off rfl rfl ?_
      refine w_val rfl rfl (op_pure rfl) ?_
      refine w_val rfl rfl (op_pure rfl) ?_
      refine w_val rfl rfl (op_fldP rfl rfl rfl rfl (by decide)) ?_
      refine w_val rfl rfl (op_loadC 0 hS rfl rfl rfl (Nat.le_of_ble_eq_true rfl) rfl) ?_
      refine w_val rfl rfl (op_pure rfl) ?_
      refine w_val rfl rfl (op_pure rfl) ?_
      refine w_split (i := 31) rfl (fun h31 => ?_) (fun h31 => ?_)
      · simp only [decide_eq_true_eq] at h31
        refine w_off rfl rfl ?_
        refine w_off rfl rfl ?_
        refine w_off rfl rfl ?_
        refine w_off rfl rfl ?_
        refine w_val rfl rfl (op_pure rfl) ?_
        refine w_val rfl rfl (op_pure rfl) ?_
        refine w_nil ?_
        refine then_n ?_
        refine wc_cond_t rfl ?_
        repeat refine wc_seq ?_
        refine wc_region ?_
        refine w_val rfl rfl (op_pure rfl) ?_
        refine w_nil ?_
        refine then_n ?_
        refine wc_ret ?_
        repeat first | refine then_r ?_ | refine out_r ?_ | refine round_r ?_ | refine cut_r ?_ | refine sc_r ?_
        exact ⟨_, rfl, hK, by first
          | (unfold rightC; rw [hla]; simp [packA, hA, h45]; done)
          | (have hB : badI l.length y = true := (by (simp [badI, branchI, h22, h31]; done))
             have hA : l.any (badI l.length) = true := List.any_eq_true.2 ⟨y, List.mem_of_getElem? hy, hB⟩
             unfold rightC
             cases l.getLast? with
             | none => rfl
             | some z => simp [packA, hA])⟩
      simp only [decide_eq_false_iff_not] at h31
      refine w_val rfl rfl (op_fldP rfl rfl rfl rfl (by decide)) ?_
      refine w_val rfl rfl (op_loadC 0 hS rfl rfl rfl (Nat.le_of_ble_eq_true rfl) rfl) ?_
      refine w_val rfl rfl (op_pure rfl) ?_
      refine w_val rfl rfl (op_pure rfl) ?_
      refine w_val rfl rfl (op_pure rfl) ?_
      refine w_val rfl rfl (op_pure rfl) ?_
      refine w_nil ?_
      refine then_n ?_
      refine wc_condT rfl (fun h37 => ?_) (fun h37 => ?_)
      · simp only [decide_eq_true_eq, ge_iff_le] at h37
        repeat refine wc_seq ?_
        refine wc_region ?_
        refine w_val rfl rfl (op_pure rfl) ?_
        refine w_nil ?_
        refine then_n ?_
        refine wc_ret ?_
        repeat first | refine then_r ?_ | refine out_r ?_ | refine round_r ?_ | refine cut_r ?_ | refine sc_r ?_
        exact ⟨_, rfl, hK, by first
          | (unfold rightC; rw [hla]; simp [packA, hA, h45]; done)
          | (have hB : badI l.length y = true := (by (simp [badI, branchI, h22, h31, h37]; done))
             have hA : l.any (badI l.length) = true := List.any_eq_true.2 ⟨y, List.mem_of_getElem? hy, hB⟩
             unfold rightC
             cases l.getLast? with
             | none => rfl
             | some z => simp [packA, hA])⟩
      simp only [decide_eq_false_iff_not, ge_iff_le] at h37
      refine wc_skip ?_
      refine out_n ?_
      refine then_n ?_
      refine wc_region ?_
      refine w_val rfl rfl (op_pure rfl) ?_
      refine w_val rfl rfl (op_add rfl rfl (by unfold In64; omega)) ?_
      refine w_val rfl rfl (op_pure rfl) ?_
      refine w_nil ?_
      have hB : badI l.length y = false := by first | (simp [badI, branchI, h22, h31, h37]; done) | (simp [badI, branchI, h22, h27, h31, h37]; done) | (simp [badI, branchI, h22, h27]; done)
      exact round_n _ _ (by omega) (Sub.cons rfl (Sub.cons rfl (Sub.cons rfl (Sub.nil _)))) ⟨k + 1, rfl, by omega, rfl, hS.sel [] rfl (by decide), fun j y2 hj h => (Nat.lt_succ_iff_lt_or_eq.1 hj).elim (fun h1 => hI j y2 h1 h) (fun e => by subst e; rw [hy] at h; cases h; exact hB)⟩
    simp only [beq_eq_false_iff_ne, ne_eq] at h22
    refine w_val rfl rfl (op_fldP rfl rfl rfl rfl (by decide)) ?_
    refine w_val rfl rfl (op_loadC 0 hS rfl rfl rfl (Nat.le_of_ble_eq_true rfl) rfl) ?_
    refine w_val rfl rfl (op_pure rfl) ?_
    refine w_val rfl rfl (op_pure rfl) ?_
    refine w_val rfl rfl (op_pure rfl) ?_
    refine w_split (i := 27) rfl (fun h27 => ?_) (fun h27 => ?_)
    · simp only [beq_iff_eq] at h27
      refine w_val rfl rfl (op_fldP rfl rfl rfl rfl (by decide)) ?_
      refine w_val rfl rfl (op_loadC 0 hS rfl rfl rfl (Nat.le_of_ble_eq_true rfl) rfl) ?_
      refine w_val rfl rfl (op_pure rfl) ?_
      refine w_val rfl rfl (op_pure rfl) ?_
      refine w_split (i := 31) rfl (fun h31 => ?_) (fun h31 => ?_)
      · simp only [decide_eq_true_eq] at h31
        refine w_off rfl rfl ?_
        refine w_off rfl rfl ?_
        refine w_off rfl rfl ?_
        refine w_off rfl rfl ?_
        refine w_val rfl rfl (op_pure rfl) ?_
        refine w_val rfl rfl (op_pure rfl) ?_
        refine w_nil ?_
        refine then_n ?_
        refine wc_cond_t rfl ?_
        repeat refine wc_seq ?_
        refine wc_region ?_
        refine w_val rfl rfl (op_pure rfl) ?_
        refine w_nil ?_
        refine then_n ?_
        refine wc_ret ?_
        repeat first | refine then_r ?_ | refine out_r ?_ | refine round_r ?_ | refine cut_r ?_ | refine sc_r ?_
        exact ⟨_, rfl, hK, by first
          | (unfold rightC; rw [hla]; simp [packA, hA, h45]; done)
          | (have hB : badI l.length y = true := (by (simp [badI, branchI, h27, h31]; done))
             have hA : l.any (badI l.length) = true := List.any_eq_true.2 ⟨y, List.mem_of_getElem? hy, hB⟩
             unfold rightC
             cases l.getLast? with
             | none => rfl
             | some z => simp [packA, hA])⟩
      simp only [decide_eq_false_iff_not] at h31
      refine w_val rfl rfl (op_fldP rfl rfl rfl rfl (by decide)) ?_
      refine w_val rfl rfl (op_loadC 0 hS rfl rfl rfl (Nat.le_of_ble_eq_true rfl) rfl) ?_
      refine w_val rfl rfl (op_pure rfl) ?_
      refine w_val rfl rfl (op_pure rfl) ?_
      refine w_val rfl rfl (op_pure rfl) ?_
      refine w_val rfl rfl (op_pure rfl) ?_
      refine w_nil ?_
      refine then_n ?_
      refine wc_condT rfl (fun h37 => ?_) (fun h37 => ?_)
      · simp only [decide_eq_true_eq, ge_iff_le] at h37
        repeat refine wc_seq ?_
        refine wc_region ?_
        refine w_val rfl rfl (op_pure rfl) ?_
        refine w_nil ?_
        refine then_n ?_
        refine wc_ret ?_
        repeat first | refine then_r ?_ | refine out_r ?_ | refine round_r ?_ | refine cut_r ?_ | refine sc_r ?_
        exact ⟨_, rfl, hK, by first
          | (unfold rightC; rw [hla]; simp [packA, hA, h45]; done)
          | (have hB : badI l.length y = true := (by (simp [badI, branchI, h27, h31, h37]; done))
             have hA : l.any (badI l.length) = true := List.any_eq_true.2 ⟨y, List.mem_of_getElem? hy, hB⟩
             unfold rightC
             cases l.getLast? with
             | none => rfl
             | some z => simp [packA, hA])⟩
      simp only [decide_eq_false_iff_not, ge_iff_le] at h37
      refine wc_skip ?_
      refine out_n ?_
      refine then_n ?_
      refine wc_region ?_
      refine w_val rfl rfl (op_pure rfl) ?_
      refine w_val rfl rfl (op_add rfl rfl (by unfold In64; omega)) ?_
      refine w_val rfl rfl (op_pure rfl) ?_
      refine w_nil ?_
      have hB : badI l.length y = false := by first | (simp [badI, branchI, h31, h37]; done) | (simp [badI, branchI, h22, h27, h31, h37]; done) | (simp [badI, branchI, h22, h27]; done)
      exact round_n _ _ (by omega) (Sub.cons rfl (Sub.cons rfl (Sub.cons rfl (Sub.nil _)))) ⟨k + 1, rfl, by omega, rfl, hS.sel [] rfl (by decide), fun j y2 hj h => (Nat.lt_succ_iff_lt_or_eq.1 hj).elim (fun h1 => hI j y2 h1 h) (fun e => by subst e; rw [hy] at h; cases h; exact hB)⟩
    simp only [beq_eq_false_iff_ne, ne_eq] at h27
    refine w_off rfl rfl ?_
    refine w_off rfl rfl ?_
    refine w_off rfl rfl ?_
    refine w_off rfl rfl ?_
    refine w_off rfl rfl ?_
    refine w_off rfl rfl ?_
    refine w_off rfl rfl ?_
    refine w_off rfl rfl ?_
    refine w_off rfl rfl ?_
    refine w_val rfl rfl (op_pure rfl) ?_
    refine w_nil ?_
    refine then_n ?_
    refine wc_cond_f rfl ?_
    refine wc_skip ?_
    refine out_n ?_
    refine then_n ?_
    refine wc_region ?_
    refine w_val rfl rfl (op_pure rfl) ?_
    refine w_val rfl rfl (op_add rfl rfl (by unfold In64; omega)) ?_
    refine w_val rfl rfl (op_pure rfl) ?_
    refine w_nil ?_
    have hB : badI l.length y = false := by first | (simp [badI, branchI, h22, h31, h37]; done) | (simp [badI, branchI, h22, h27, h31, h37]; done) | (simp [badI, branchI, h22, h27]; done)
    exact round_n _ _ (by omega) (Sub.cons rfl (Sub.cons rfl (Sub.cons rfl (Sub.nil _)))) ⟨k + 1, rfl, by omega, rfl, hS.sel [] rfl (by decide), fun j y2 hj h => (Nat.lt_succ_iff_lt_or_eq.1 hj).elim (fun h1 => hI j y2 h1 h) (fun e => by subst e; rw [hy] at h; cases h; exact hB)⟩
  simp only [decide_eq_false_iff_not] at h12
  obtain rfl : k = l.length := by omega
  have hA : l.any (badI l.length) = false := by
    rw [List.any_eq_false]
    intro y hy
    obtain ⟨j, hj⟩ := List.getElem?_of_mem hy
    rw [hI j y (List.getElem?_eq_some_iff.1 hj).1 hj]
    simp
  have hpos : 0 < l.length := by omega
  obtain ⟨y, hy⟩ : ∃ y, l[l.length - 1]? = some y := ⟨_, List.getElem?_eq_getElem (by omega)⟩
  have hvz := hv.keep0 hK
  have hla : l.getLast? = some y := by rw [List.getLast?_eq_getElem?]; exact hy
  refine wc_exit ?_
  repeat first | refine then_x ?_ | refine round_x ?_ | refine cut_x ?_ | refine out_x' (by decide) ?_
  refine out_x ?_
  refine then_n ?_
  repeat refine wc_seq ?_
  refine wc_region ?_
  refine w_val rfl rfl (op_pure rfl) ?_
  refine w_val rfl rfl (op_pure rfl) ?_
  refine w_val rfl rfl (op_sub rfl rfl (by unfold In64; omega)) ?_
  refine w_val rfl rfl (op_idxF (n := l.length - 1) rfl rfl (natA_pred _ hpos) rfl rfl rfl rfl hvz (by omega)) ?_
  refine w_val rfl rfl (op_fld rfl rfl rfl rfl (by decide) (Row.mk_pt hvz hy) (Nat.le_of_ble_eq_true rfl)) ?_
  refine w_val rfl rfl (op_load rfl rfl ((Row.mk_pt hvz hy).fld _ (Nat.le_of_ble_eq_true rfl)) rfl) ?_
  refine w_val rfl rfl (op_pure rfl) ?_
  refine w_val rfl rfl (op_pure rfl) ?_
  refine w_split (i := 45) rfl (fun h45 => ?_) (fun h45 => ?_)
  · simp only [beq_iff_eq] at h45
    refine w_off rfl rfl ?_
    refine w_off rfl rfl ?_
    refine w_off rfl rfl ?_
    refine w_off rfl rfl ?_
    refine w_off rfl rfl ?_
    refine w_off rfl rfl ?_
    refine w_off rfl rfl ?_
    refine w_val rfl rfl (op_pure rfl) ?_
    refine w_val rfl rfl (op_pure rfl) ?_
    refine w_nil ?_
    refine then_n ?_
    refine wc_ret ?_
    repeat first | refine then_r ?_ | refine out_r ?_ | refine round_r ?_ | refine cut_r ?_ | refine sc_r ?_
    exact ⟨_, rfl, hK, by first
      | (unfold rightC; rw [hla]; simp [packA, hA, h45]; done)
      | (have hB : badI l.length y = true := (by first | (simp [badI, branchI, h22, h31]; done) | (simp [badI, branchI, h22, h31, h37]; done) | (simp [badI, branchI, h22, h27, h31]; done) | (simp [badI, branchI, h22, h27, h31, h37]; done))
         have hA : l.any (badI l.length) = true := List.any_eq_true.2 ⟨y, List.mem_of_getElem? hy, hB⟩
         unfold rightC
         cases l.getLast? with
         | none => rfl
         | some z => simp [packA, hA])⟩
  simp only [beq_eq_false_iff_ne, ne_eq] at h45
  refine w_val rfl rfl (op_pure rfl) ?_
  refine w_val rfl rfl (op_pure rfl) ?_
  refine w_val rfl rfl (op_sub rfl rfl (by unfold In64; omega)) ?_
  refine w_val rfl rfl (op_idxF (n := l.length - 1) rfl rfl (natA_pred _ hpos) rfl rfl rfl rfl hvz (by omega)) ?_
  refine w_val rfl rfl (op_fld rfl rfl rfl rfl (by decide) (Row.mk_pt hvz hy) (Nat.le_of_ble_eq_true rfl)) ?_
  refine w_val rfl rfl (op_load rfl rfl ((Row.mk_pt hvz hy).fld _ (Nat.le_of_ble_eq_true rfl)) rfl) ?_
  refine w_val rfl rfl (op_pure rfl) ?_
  refine w_val rfl rfl (op_pure rfl) ?_
  refine w_val rfl rfl (op_pure rfl) ?_
  refine w_nil ?_
  refine then_n ?_
  refine wc_ret ?_
  repeat first | refine then_r ?_ | refine out_r ?_ | refine round_r ?_ | refine cut_r ?_ | refine sc_r ?_
  exact ⟨_, rfl, hK, by first
    | (unfold rightC; rw [hla]; simp [packA, hA, h45]; done)
    | (have hB : badI l.length y = true := (by first | (simp [badI, branchI, h22, h31]; done) | (simp [badI, branchI, h22, h31, h37]; done) | (simp [badI, branchI, h22, h27, h31]; done) | (simp [badI, branchI, h22, h27, h31, h37]; done))
       have hA : l.any (badI l.length) = true := List.any_eq_true.2 ⟨y, List.mem_of_getElem? hy, hB⟩
       unfold rightC
       cases l.getLast? with
       | none => rfl
       | some z => simp [packA, hA])⟩
end Go.Ab
/- Comes, both ways. -/
namespace Go.Ab
open Go.Proofs
theorem step_nop {l : List InstrL} {b : Nat} {y : InstrL} (hy : l[b]? = some y) (h : y.op = 42) : stepC l b = some (b + 1) := by
  unfold stepC; rw [hy]; simp [h]
theorem step_jump {l : List InstrL} {b c : Nat} {y : InstrL} (hy : l[b]? = some y) (_h : ¬ y.op = 42) (h2 : y.op = 43) (hc : y.a = (c : Int)) : stepC l b = some c := by
  unfold stepC; rw [hy]; simp [h2, hc]
theorem step_stop {l : List InstrL} {b : Nat} {y : InstrL} (hy : l[b]? = some y) (h : ¬ y.op = 42) (h2 : ¬ y.op = 43) : stepC l b = none := by
  unfold stepC; rw [hy]; simp [h, h2]
set_option maxRecDepth 10000 in
set_option maxHeartbeats 8000000 in
theorem comes_ok {s : St} {v : AV} {l : List InstrL} {a : Nat} (hok : s.Ok) (hv : Row s.h 2 v (l.map inC)) (hl : l.length ≤ 2097152) (hr : rightC l = true) (ha : a < l.length) : CallS Try.prog Tt Kt 57 [v, .int .i64 (a : Nat)] s (fun r s' => Keep [] s s' ∧ r = .int .i64 (comesN l a : Nat)) := by
  refine call_of (fn := Try.f57) (nt := 34) Try.func57 rfl rfl rfl ?_
  repeat refine wc_seq ?_
  have hS := SH.start hok
  have hK := hS.K
  refine wc_region ?_
  refine w_val rfl rfl (op_pure rfl) ?_
  refine w_nil ?_
  refine then_n ?_
  refine wc_scopeG ?_
  repeat refine wc_seq ?_
  refine wc_region ?_
  refine w_val rfl rfl (op_pure rfl) ?_
  refine w_val rfl rfl (op_pure rfl) ?_
  refine w_val rfl rfl (op_pure rfl) ?_
  refine w_nil ?_
  refine then_n ?_
  refine wc_goto_at (fun jj m z => ∃ (k b : Nat), jj = l.length + 2 - k ∧ k ≤ l.length + 1 ∧ m = [(0, v), (1, .int .i64 (a : Nat)), (5, .int .i64 (b : Nat)), (6, .int .i64 (k : Nat))] ∧ SH s [] z ∧ iterC l a k = some b) (l.length + 2) [(0, v), (1, .int .i64 (a : Nat)), (5, .int .i64 (a : Nat)), (6, .int .i64 ((0 : Nat) : Int))] (Sub.cons rfl (Sub.cons rfl (Sub.cons rfl (Sub.cons rfl (Sub.nil _))))) ⟨0, a, by simp, by omega, rfl, hS, rfl⟩ rfl ?_
  clear hS hK
  rintro jj m z ⟨k, b, rfl, hk, rfl, hS, hI⟩
  have hK := hS.K
  have hvz := hv.keep0 hK
  have hb := iter_in hr ha hI
  obtain ⟨y, hy⟩ : ∃ y, l[b]? = some y := ⟨_, List.getElem?_eq_getElem hb⟩
  repeat refine wc_seq ?_
  refine wc_region ?_
  refine w_val rfl rfl (op_pure rfl) ?_
  refine w_val rfl rfl (op_pure rfl) ?_
  refine w_val rfl rfl (op_idxF rfl rfl (natA_cast _ _) rfl rfl rfl rfl hvz (by omega)) ?_
  refine w_val rfl rfl (op_load (v := .agg (inC y)) rfl rfl (Row.mk_pt hvz hy) rfl) ?_
  refine ws_alloc hS rfl rfl rfl rfl ?_
  rintro p0 z hS hk
  have hS : SH _ [_] z := hS
  have hK := hS.K
  refine ws_store 0 hS rfl rfl rfl rfl rfl rfl (by rfl) (Nat.le_of_ble_eq_true rfl) ?_
  rintro z hS
  have hS : SH _ [_] z := hS
  have hK := hS.K
  refine w_nil ?_
  refine then_n ?_
  repeat refine wc_seq ?_
  refine wc_block ?_
  repeat refine wc_seq ?_
  refine wc_region ?_
  refine w_val rfl rfl (op_pure rfl) ?_
  refine w_val rfl rfl (op_pure rfl) ?_
  refine w_val rfl rfl (op_len rfl rfl rfl rfl rfl hv.slenF) ?_
  refine w_val rfl rfl (op_pure rfl) ?_
  refine w_val rfl rfl (op_pure rfl) ?_
  refine w_nil ?_
  refine then_n ?_
  refine wc_condT rfl (fun h14 => ?_) (fun h14 => ?_)
  · simp only [decide_eq_true_eq, gt_iff_lt] at h14
    repeat refine wc_seq ?_
    refine wc_region ?_
    refine w_val rfl rfl (op_pure rfl) ?_
    refine w_val rfl rfl (op_pure rfl) ?_
    refine w_nil ?_
    refine then_n ?_
    refine wc_ret ?_
    repeat first | refine then_r ?_ | refine out_r ?_ | refine round_r ?_ | refine cut_r ?_ | refine sc_r ?_ | refine gt_r ?_ | refine scg_r ?_
    exact ⟨_, rfl, hK, by rw [comesN_never (never_long hr ha (by omega) hI)]; rfl⟩
  simp only [decide_eq_false_iff_not, gt_iff_lt] at h14
  repeat refine wc_seq ?_
  refine wc_region ?_
  refine w_val rfl rfl (op_fldP rfl rfl rfl rfl (by decide)) ?_
  refine w_val rfl rfl (op_loadC 0 hS rfl rfl rfl (Nat.le_of_ble_eq_true rfl) rfl) ?_
  refine w_val rfl rfl (op_pure rfl) ?_
  refine w_val rfl rfl (op_pure rfl) ?_
  refine w_nil ?_
  refine then_n ?_
  refine wc_condT rfl (fun h20 => ?_) (fun h20 => ?_)
  · simp only [beq_iff_eq] at h20
    refine wc_region ?_
    refine w_val rfl rfl (op_pure rfl) ?_
    refine w_val rfl rfl (op_add rfl rfl (by unfold In64; omega)) ?_
    refine w_val rfl rfl (op_pure rfl) ?_
    refine w_nil ?_
    refine out_n ?_
    refine then_n ?_
    repeat refine wc_seq ?_
    refine wc_region ?_
    refine w_val rfl rfl (op_pure rfl) ?_
    refine w_val rfl rfl (op_add rfl rfl (by unfold In64; omega)) ?_
    refine w_val rfl rfl (op_pure rfl) ?_
    refine w_nil ?_
    refine then_n ?_
    refine wc_goto ?_
    repeat first | refine then_g ?_ | refine out_g ?_
    exact gt_g _ _ (by omega) (Sub.cons rfl (Sub.cons rfl (Sub.cons rfl (Sub.cons rfl (Sub.nil _))))) ⟨k + 1, b + 1, rfl, by omega, rfl, hS.sel [] rfl (by decide), iter_next hI hy (step_nop hy h20)⟩
  simp only [beq_eq_false_iff_ne, ne_eq] at h20
  repeat refine wc_seq ?_
  refine wc_region ?_
  refine w_val rfl rfl (op_fldP rfl rfl rfl rfl (by decide)) ?_
  refine w_val rfl rfl (op_loadC 0 hS rfl rfl rfl (Nat.le_of_ble_eq_true rfl) rfl) ?_
  refine w_val rfl rfl (op_pure rfl) ?_
  refine w_val rfl rfl (op_pure rfl) ?_
  refine w_nil ?_
  refine then_n ?_
  refine wc_condT rfl (fun h26 => ?_) (fun h26 => ?_)
  · simp only [beq_iff_eq] at h26
    obtain ⟨hy0, hyn⟩ := rightC_jump hr (List.mem_of_getElem? hy) (.inl h26)
    obtain ⟨yo, ya⟩ := y
    obtain ⟨c, hc⟩ : ∃ c : Nat, ya = c := ⟨ya.toNat, by simp only at hy0; omega⟩
    subst hc
    refine wc_region ?_
    refine w_val rfl rfl (op_fldP rfl rfl rfl rfl (by decide)) ?_
    refine w_val rfl rfl (op_loadC 0 hS rfl rfl rfl (Nat.le_of_ble_eq_true rfl) rfl) ?_
    refine w_val rfl rfl (op_pure rfl) ?_
    refine w_nil ?_
    refine out_n ?_
    refine then_n ?_
    repeat refine wc_seq ?_
    refine wc_region ?_
    refine w_val rfl rfl (op_pure rfl) ?_
    refine w_val rfl rfl (op_add rfl rfl (by unfold In64; omega)) ?_
    refine w_val rfl rfl (op_pure rfl) ?_
    refine w_nil ?_
    refine then_n ?_
    refine wc_goto ?_
    repeat first | refine then_g ?_ | refine out_g ?_
    exact gt_g _ _ (by omega) (Sub.cons rfl (Sub.cons rfl (Sub.cons rfl (Sub.cons rfl (Sub.nil _))))) ⟨k + 1, c, rfl, by omega, rfl, hS.sel [] rfl (by decide), iter_next hI hy (step_jump hy h20 h26 rfl)⟩
  simp only [beq_eq_false_iff_ne, ne_eq] at h26
  repeat refine wc_seq ?_
  refine wc_region ?_
  refine w_val rfl rfl (op_pure rfl) ?_
  refine w_val rfl rfl (op_pure rfl) ?_
  refine w_nil ?_
  refine then_n ?_
  refine wc_ret ?_
  repeat first | refine then_r ?_ | refine out_r ?_ | refine round_r ?_ | refine cut_r ?_ | refine sc_r ?_ | refine gt_r ?_ | refine scg_r ?_
  exact ⟨_, rfl, hK, by rw [comesN_stop ⟨k, hI, step_stop hy h20 h26⟩]; rfl⟩
set_option maxRecDepth 10000 in
set_option maxHeartbeats 8000000 in
theorem comes_all_ok {s : St} {v : AV} {l : List InstrL} {a : Int} (hok : s.Ok) (hv : Row s.h 2 v (l.map inC)) (hl : l.length ≤ 2097152) : CallS Try.prog Tt Kt 21 [v, .int .i64 a] s (fun r s' => Keep [] s s' ∧ r = .int .i64 (comesF l a)) := by
  refine call_of (fn := Try.f21) (nt := 21) Try.func21 rfl rfl rfl ?_
  repeat refine wc_seq ?_
  refine wc_region ?_
  refine w_val rfl rfl (op_pure rfl) ?_
  refine w_nil ?_
  refine then_n ?_
  repeat refine wc_seq ?_
  refine wc_region ?_
  refine w_val rfl rfl (op_pure rfl) ?_
  refine w_call rfl rfl (op_call rfl rfl rfl rfl) (right_code_ok hok hv hl) ?_
  rintro _ z ⟨hK, rfl⟩
  refine w_val rfl rfl (op_pure rfl) ?_
  refine w_val rfl rfl (op_pure rfl) ?_
  refine w_split (i := 8) rfl (fun h8 => ?_) (fun h8 => ?_)
  · simp only [Bool.not_eq_true'] at h8
    refine w_off rfl rfl ?_
    refine w_off rfl rfl ?_
    refine w_val rfl rfl (op_pure rfl) ?_
    refine w_val rfl rfl (op_pure rfl) ?_
    refine w_off rfl rfl ?_
    refine w_off rfl rfl ?_
    refine w_off rfl rfl ?_
    refine w_off rfl rfl ?_
    refine w_val rfl rfl (op_pure rfl) ?_
    refine w_nil ?_
    refine then_n ?_
    repeat refine wc_seq ?_
    refine wc_cond_t rfl ?_
    repeat refine wc_seq ?_
    refine wc_region ?_
    refine w_val rfl rfl (op_pure rfl) ?_
    refine w_nil ?_
    refine then_n ?_
    refine wc_ret ?_
    repeat first | refine then_r ?_ | refine out_r ?_ | refine round_r ?_ | refine cut_r ?_ | refine sc_r ?_
    exact ⟨_, rfl, hK, by rw [comesF_no (.inl (by assumption))]; rfl⟩
  simp only [Bool.not_eq_false'] at h8
  refine w_val rfl rfl (op_pure rfl) ?_
  refine w_val rfl rfl (op_pure rfl) ?_
  refine w_val rfl rfl (op_pure rfl) ?_
  refine w_val rfl rfl (op_pure rfl) ?_
  refine w_split (i := 12) rfl (fun h12 => ?_) (fun h12 => ?_)
  · simp only [decide_eq_true_eq] at h12
    refine w_off rfl rfl ?_
    refine w_off rfl rfl ?_
    refine w_off rfl rfl ?_
    refine w_off rfl rfl ?_
    refine w_val rfl rfl (op_pure rfl) ?_
    refine w_nil ?_
    refine then_n ?_
    repeat refine wc_seq ?_
    refine wc_cond_t rfl ?_
    repeat refine wc_seq ?_
    refine wc_region ?_
    refine w_val rfl rfl (op_pure rfl) ?_
    refine w_nil ?_
    refine then_n ?_
    refine wc_ret ?_
    repeat first | refine then_r ?_ | refine out_r ?_ | refine round_r ?_ | refine cut_r ?_ | refine sc_r ?_
    exact ⟨_, rfl, hK, by rw [comesF_no (by (right; omega))]; rfl⟩
  simp only [decide_eq_false_iff_not] at h12
  refine w_val rfl rfl (op_pure rfl) ?_
  refine w_val rfl rfl (op_pure rfl) ?_
  refine w_val rfl rfl (op_len rfl rfl rfl rfl rfl hv.slenF) ?_
  refine w_val rfl rfl (op_pure rfl) ?_
  refine w_val rfl rfl (op_pure rfl) ?_
  refine w_nil ?_
  refine then_n ?_
  repeat refine wc_seq ?_
  refine wc_condT rfl (fun h17 => ?_) (fun h17 => ?_)
  · simp only [decide_eq_true_eq, ge_iff_le] at h17
    repeat refine wc_seq ?_
    refine wc_region ?_
    refine w_val rfl rfl (op_pure rfl) ?_
    refine w_nil ?_
    refine then_n ?_
    refine wc_ret ?_
    repeat first | refine then_r ?_ | refine out_r ?_ | refine round_r ?_ | refine cut_r ?_ | refine sc_r ?_
    exact ⟨_, rfl, hK, by rw [comesF_no (by (right; omega))]; rfl⟩
  simp only [decide_eq_false_iff_not, ge_iff_le] at h17
  refine wc_skip ?_
  refine then_n ?_
  repeat refine wc_seq ?_
  obtain ⟨b, rfl⟩ : ∃ b : Nat, a = b := ⟨a.toNat, by omega⟩
  refine wc_region ?_
  refine w_val rfl rfl (op_pure rfl) ?_
  refine w_val rfl rfl (op_pure rfl) ?_
  refine w_call rfl rfl (op_call rfl rfl rfl rfl) (comes_ok hK.ok (hv.keep0 hK) hl h8 (by omega)) ?_
  rintro _ z ⟨hk, rfl⟩
  refine w_val rfl rfl (op_pure rfl) ?_
  refine w_nil ?_
  refine then_n ?_
  refine wc_ret ?_
  repeat first | refine then_r ?_ | refine out_r ?_ | refine round_r ?_ | refine cut_r ?_ | refine sc_r ?_
  exact ⟨_, rfl, hK.two hk, by rw [comesF_yes h8 (by omega)]; rfl⟩
set_option maxRecDepth 10000 in
set_option maxHeartbeats 8000000 in
theorem comes_ref_ok {s : St} {v : AV} {l : List InstrL} {a : Int} (hok : s.Ok) (hv : Row s.h 2 v (l.map inC)) (hl : l.length ≤ 2097152) : CallS Try.prog Tt Kt 22 [v, .int .i64 a] s (fun r s' => Keep [] s s' ∧ r = .int .i64 (comesF l a)) := by
  refine call_of (fn := Try.f22) (nt := 50) Try.func22 rfl rfl rfl ?_
  repeat refine wc_seq ?_
  have hS := SH.start hok
  have hK := hS.K
  refine wc_region ?_
  refine w_val rfl rfl (op_pure rfl) ?_
  refine w_nil ?_
  refine then_n ?_
  repeat refine wc_seq ?_
  refine wc_region ?_
  refine w_val rfl rfl (op_pure rfl) ?_
  refine w_call rfl rfl (op_call rfl rfl rfl rfl) (right_ref_code_ok hK.ok hv hl) ?_
  rintro _ z ⟨hk, rfl⟩
  have hS := hS.mov hk
  have hK := hS.K
  refine w_val rfl rfl (op_pure rfl) ?_
  refine w_val rfl rfl (op_pure rfl) ?_
  refine w_split (i := 10) rfl (fun h10 => ?_) (fun h10 => ?_)
  · simp only [Bool.not_eq_true'] at h10
    refine w_off rfl rfl ?_
    refine w_off rfl rfl ?_
    refine w_val rfl rfl (op_pure rfl) ?_
    refine w_val rfl rfl (op_pure rfl) ?_
    refine w_off rfl rfl ?_
    refine w_off rfl rfl ?_
    refine w_off rfl rfl ?_
    refine w_off rfl rfl ?_
    refine w_val rfl rfl (op_pure rfl) ?_
    refine w_nil ?_
    refine then_n ?_
    repeat refine wc_seq ?_
    refine wc_cond_t rfl ?_
    repeat refine wc_seq ?_
    refine wc_region ?_
    refine w_val rfl rfl (op_pure rfl) ?_
    refine w_nil ?_
    refine then_n ?_
    refine wc_ret ?_
    repeat first | refine then_r ?_ | refine out_r ?_ | refine round_r ?_ | refine cut_r ?_ | refine sc_r ?_
    exact ⟨_, rfl, hK, by rw [comesF_no (.inl (by assumption))]; rfl⟩
  simp only [Bool.not_eq_false'] at h10
  refine w_val rfl rfl (op_pure rfl) ?_
  refine w_val rfl rfl (op_pure rfl) ?_
  refine w_val rfl rfl (op_pure rfl) ?_
  refine w_val rfl rfl (op_pure rfl) ?_
  refine w_split (i := 14) rfl (fun h14 => ?_) (fun h14 => ?_)
  · simp only [decide_eq_true_eq] at h14
    refine w_off rfl rfl ?_
    refine w_off rfl rfl ?_
    refine w_off rfl rfl ?_
    refine w_off rfl rfl ?_
    refine w_val rfl rfl (op_pure rfl) ?_
    refine w_nil ?_
    refine then_n ?_
    repeat refine wc_seq ?_
    refine wc_cond_t rfl ?_
    repeat refine wc_seq ?_
    refine wc_region ?_
    refine w_val rfl rfl (op_pure rfl) ?_
    refine w_nil ?_
    refine then_n ?_
    refine wc_ret ?_
    repeat first | refine then_r ?_ | refine out_r ?_ | refine round_r ?_ | refine cut_r ?_ | refine sc_r ?_
    exact ⟨_, rfl, hK, by rw [comesF_no (by (right; omega))]; rfl⟩
  simp only [decide_eq_false_iff_not] at h14
  refine w_val rfl rfl (op_pure rfl) ?_
  refine w_val rfl rfl (op_pure rfl) ?_
  refine w_val rfl rfl (op_len rfl rfl rfl rfl rfl hv.slenF) ?_
  refine w_val rfl rfl (op_pure rfl) ?_
  refine w_val rfl rfl (op_pure rfl) ?_
  refine w_nil ?_
  refine then_n ?_
  repeat refine wc_seq ?_
  refine wc_condT rfl (fun h19 => ?_) (fun h19 => ?_)
  · simp only [decide_eq_true_eq, ge_iff_le] at h19
    repeat refine wc_seq ?_
    refine wc_region ?_
    refine w_val rfl rfl (op_pure rfl) ?_
    refine w_nil ?_
    refine then_n ?_
    refine wc_ret ?_
    repeat first | refine then_r ?_ | refine out_r ?_ | refine round_r ?_ | refine cut_r ?_ | refine sc_r ?_
    exact ⟨_, rfl, hK, by rw [comesF_no (by (right; omega))]; rfl⟩
  simp only [decide_eq_false_iff_not, ge_iff_le] at h19
  refine wc_skip ?_
  refine then_n ?_
  repeat refine wc_seq ?_
  obtain ⟨a, rfl⟩ : ∃ b : Nat, a = b := ⟨a.toNat, by omega⟩
  have ha : a < l.length := by omega
  refine wc_region ?_
  refine w_val rfl rfl (op_pure rfl) ?_
  refine w_val rfl rfl (op_len rfl rfl rfl rfl rfl hv.slenF) ?_
  refine ws_mk hS rfl rfl rfl rfl rfl rfl rfl rfl rfl (by decide) rfl (by simp only [maxBytes]; omega) (by omega) ?_
  rintro sv z hS hne hk
  have hS : SH s [rowC sv 1 ((List.replicate l.length false).map bC)] z := by rw [← rep_bC]; exact hS
  have hK := hS.K
  refine w_val rfl rfl (op_pure rfl) ?_
  refine w_nil ?_
  refine then_n ?_
  repeat refine wc_seq ?_
  refine wc_region ?_
  refine w_val rfl rfl (op_pure rfl) ?_
  refine w_val rfl rfl (op_pure rfl) ?_
  refine w_nil ?_
  refine then_n ?_
  repeat refine wc_seq ?_
  refine wc_block ?_
  refine wc_loop_at (fun jj m z => ∃ (j b : Nat) (L : List Bool), jj = cntF L ∧ m = [(0, v), (1, .int .i64 (a : Nat)), (5, sv), (6, .int .i64 (b : Nat))] ∧ SH s [rowC sv 1 (L.map bC)] z ∧ L.length = l.length ∧ iterC l a j = some b ∧ ∀ c, Tk L c ↔ ∃ i, i < j ∧ iterC l a i = some c) (cntF (List.replicate l.length false))
    [(0, v), (1, .int .i64 (a : Nat)), (5, sv), (6, .int .i64 (a : Nat))] (Sub.cons rfl (Sub.cons rfl (Sub.cons rfl (Sub.cons rfl (Sub.nil _))))) ⟨0, a, _, rfl, rfl, hS, by simp, rfl, fun c => ⟨fun h => (by have := List.mem_of_getElem? h; rw [List.mem_replicate] at this; exact Bool.noConfusion this.2), fun ⟨i, h, _⟩ => by omega⟩⟩ ?_
  clear hS hK
  rintro jj m z ⟨j, b, L, rfl, rfl, hS, hL, hI, hT⟩
  have hK := hS.K
  have hr := h10
  have hb := iter_in hr ha hI
  have hvz := hv.keep0 hK
  obtain ⟨y, hy⟩ : ∃ y, l[b]? = some y := ⟨_, List.getElem?_eq_getElem hb⟩
  obtain ⟨bb, hbb⟩ : ∃ y, L[b]? = some y := ⟨_, List.getElem?_eq_getElem (by omega)⟩
  repeat refine wc_seq ?_
  refine wc_region ?_
  refine w_val rfl rfl (op_pure rfl) ?_
  refine w_val rfl rfl (op_pure rfl) ?_
  refine w_val rfl rfl (op_idxF rfl rfl (natA_cast _ _) rfl rfl rfl rfl (hS.row 0 rfl) (by omega)) ?_
  refine w_val rfl rfl (op_load rfl rfl (Row.mk_pt (hS.row 0 rfl) (by assumption)) rfl) ?_
  refine w_val rfl rfl (op_pure rfl) ?_
  refine w_nil ?_
  refine then_n ?_
  repeat refine wc_seq ?_
  refine wc_condT rfl (fun h28 => ?_) (fun h28 => ?_)
  · simp only [Bool.not_eq_true'] at h28
    subst h28
    refine wc_skip ?_
    refine then_n ?_
    refine wc_block ?_
    repeat refine wc_seq ?_
    refine wc_region ?_
    refine w_val rfl rfl (op_pure rfl) ?_
    refine w_val rfl rfl (op_pure rfl) ?_
    refine w_val rfl rfl (op_idxF rfl rfl (natA_cast _ _) rfl rfl rfl rfl (hS.row 0 rfl) (by omega)) ?_
    refine ws_storeE 0 hS rfl rfl rfl rfl rfl rfl rfl (by rfl) (by (simp; omega)) ?_
    rintro z hS
    have hS : SH _ [_] z := hS
    have hK := hS.K
    refine w_nil ?_
    refine then_n ?_
    repeat refine wc_seq ?_
    have hvz := hv.keep0 hK
    refine wc_region ?_
    refine w_val rfl rfl (op_pure rfl) ?_
    refine w_val rfl rfl (op_pure rfl) ?_
    refine w_val rfl rfl (op_idxF rfl rfl (natA_cast _ _) rfl rfl rfl rfl hvz (by omega)) ?_
    refine w_val rfl rfl (op_fld rfl rfl rfl rfl (by decide) (Row.mk_pt hvz hy) (Nat.le_of_ble_eq_true rfl)) ?_
    refine w_val rfl rfl (op_load rfl rfl ((Row.mk_pt hvz hy).fld _ (Nat.le_of_ble_eq_true rfl)) rfl) ?_
    refine w_nil ?_
    refine then_n ?_
    refine wc_block ?_
    repeat refine wc_seq ?_
    refine wc_region ?_
    refine w_val rfl rfl (op_pure rfl) ?_
    refine w_val rfl rfl (op_pure rfl) ?_
    refine w_nil ?_
    refine then_n ?_
    refine wc_condT rfl (fun h38 => ?_) (fun h38 => ?_)
    · simp only [beq_iff_eq] at h38
      refine wc_region ?_
      refine w_val rfl rfl (op_pure rfl) ?_
      refine w_val rfl rfl (op_add rfl rfl (by unfold In64; omega)) ?_
      refine w_val rfl rfl (op_pure rfl) ?_
      refine w_nil ?_
      refine out_n ?_
      refine out_n ?_
      have hS : SH s [rowC sv 1 ((L.set b true).map bC)] z := by rw [List.map_set]; exact hS
      exact round_n _ _ (by have := cntF_set hbb; omega) (Sub.cons rfl (Sub.cons rfl (Sub.cons rfl (Sub.cons rfl (Sub.nil _))))) ⟨j + 1, b + 1, L.set b true, rfl, rfl, hS, by rw [List.length_set]; exact hL, iter_next hI hy (step_nop hy h38), fun c => by
        rw [Tk_set (by omega), hT]
        constructor
        · rintro (rfl | ⟨i, h1, h2⟩)
          · exact ⟨j, by omega, hI⟩
          · exact ⟨i, by omega, h2⟩
        · rintro ⟨i, h1, h2⟩
          rcases Nat.lt_succ_iff_lt_or_eq.1 h1 with h1 | rfl
          · exact .inr ⟨i, h1, h2⟩
          · rw [hI] at h2; cases h2; exact .inl rfl⟩
    simp only [beq_eq_false_iff_ne, ne_eq] at h38
    repeat refine wc_seq ?_
    refine wc_region ?_
    refine w_val rfl rfl (op_pure rfl) ?_
    refine w_val rfl rfl (op_pure rfl) ?_
    refine w_nil ?_
    refine then_n ?_
    refine wc_condT rfl (fun h42 => ?_) (fun h42 => ?_)
    · simp only [beq_iff_eq] at h42
      obtain ⟨hy0, hyn⟩ := rightC_jump hr (List.mem_of_getElem? hy) (.inl h42)
      obtain ⟨c, hc⟩ : ∃ c : Nat, y.a = c := ⟨y.a.toNat, by omega⟩
      refine wc_region ?_
      refine w_val rfl rfl (op_pure rfl) ?_
      refine w_val rfl rfl (op_pure rfl) ?_
      refine w_val rfl rfl (op_idxF rfl rfl (natA_cast _ _) rfl rfl rfl rfl hvz (by omega)) ?_
      refine w_val rfl rfl (op_fld rfl rfl rfl rfl (by decide) (Row.mk_pt hvz hy) (Nat.le_of_ble_eq_true rfl)) ?_
      refine w_val rfl rfl (op_load (v := .int .i64 (c : Nat)) rfl rfl ((Row.mk_pt hvz hy).fld 1 (Nat.le_of_ble_eq_true rfl)) (by rw [← hc]; rfl)) ?_
      refine w_val rfl rfl (op_pure rfl) ?_
      refine w_nil ?_
      refine out_n ?_
      refine out_n ?_
      have hS : SH s [rowC sv 1 ((L.set b true).map bC)] z := by rw [List.map_set]; exact hS
      exact round_n _ _ (by have := cntF_set hbb; omega) (Sub.cons rfl (Sub.cons rfl (Sub.cons rfl (Sub.cons rfl (Sub.nil _))))) ⟨j + 1, c, L.set b true, rfl, rfl, hS, by rw [List.length_set]; exact hL, iter_next hI hy (step_jump hy h38 h42 hc), fun c => by
        rw [Tk_set (by omega), hT]
        constructor
        · rintro (rfl | ⟨i, h1, h2⟩)
          · exact ⟨j, by omega, hI⟩
          · exact ⟨i, by omega, h2⟩
        · rintro ⟨i, h1, h2⟩
          rcases Nat.lt_succ_iff_lt_or_eq.1 h1 with h1 | rfl
          · exact .inr ⟨i, h1, h2⟩
          · rw [hI] at h2; cases h2; exact .inl rfl⟩
    simp only [beq_eq_false_iff_ne, ne_eq] at h42
    repeat refine wc_seq ?_
    refine wc_region ?_
    refine w_val rfl rfl (op_pure rfl) ?_
    refine w_val rfl rfl (op_pure rfl) ?_
    refine w_nil ?_
    refine then_n ?_
    refine wc_ret ?_
    repeat first | refine then_r ?_ | refine out_r ?_ | refine round_r ?_ | refine cut_r ?_ | refine sc_r ?_
    exact ⟨_, rfl, hK, by rw [comesF_yes hr ha, comesN_stop ⟨j, hI, step_stop hy h38 h42⟩]; rfl⟩
  simp only [Bool.not_eq_false'] at h28
  subst h28
  obtain ⟨i, hi, he⟩ := (hT b).1 hbb
  have hN := comesN_never (never hi hI (he.trans hI.symm))
  refine wc_exit ?_
  repeat first | refine then_x ?_ | refine round_x ?_ | refine cut_x ?_ | refine out_x' (by decide) ?_
  refine out_x ?_
  refine then_n ?_
  repeat refine wc_seq ?_
  refine wc_region ?_
  refine w_val rfl rfl (op_pure rfl) ?_
  refine w_val rfl rfl (op_pure rfl) ?_
  refine w_nil ?_
  refine then_n ?_
  refine wc_ret ?_
  repeat first | refine then_r ?_ | refine out_r ?_ | refine round_r ?_ | refine cut_r ?_ | refine sc_r ?_
  exact ⟨_, rfl, hK, by rw [comesF_yes hr ha, hN]; rfl⟩
end Go.Ab
/- Arrays in variables. -/
namespace Go.Ab
section
variable {T : Tab} {nt : Nat} {m : Sy} {s : St}
theorem op_idxArr {tt e : TypeId} {x ix : Operand} {i ie : TI} {n k c j off : Nat} {vi : AV} (hx : evY m x = some (.ptr c j off)) (hi : evY m ix = some vi) (hn : natA vi = some k) (hT : T tt = some i) (hs : i.sh = .array n e) (he : T e = some ie) (hk : k < n) :
    ∀ t, Has t nt m → evOp T (.indexAddr tt x ix) t s = some (.val (.ptr c j (off + k * ie.size)), s) := by
  intro t ht
  obtain ⟨sh, size, bytes, zero, flat⟩ := i
  cases hs
  have : idxA T tt (.ptr c j off) k = some (.ptr c j (off + k * ie.size)) := by
    unfold idxA
    simp only [hT, he, hk, if_true]
  simp only [evOp, evY_ok ht hx, evY_ok ht hi, hn, this]
theorem op_cutArr {tt e : TypeId} {x hi : Operand} {i ie : TI} {n k c : Nat} {vh : AV} {cs : List AV} (hx : evY m x = some (.ptr c 0 0)) (hvh : evY m hi = some vh) (hn : natA vh = some k) (hT : T tt = some i) (hs : i.sh = .array n e) (he : T e = some ie) (h1 : ie.size = 1) (hk : k ≤ n) (hp : Pt s.h (.ptr c 0 0) cs) (hl : cs.length = n) :
    ∀ t, Has t nt m → evOp T (.slice tt x none (some hi) none) t s = some (.val (.slc c 0 0 1 k n true), s) := by
  intro t ht
  obtain ⟨sh, size, bytes, zero, flat⟩ := i
  cases hs
  have h2 : sliceA T tt (.ptr c 0 0) none (some k) none = some (.slc c 0 0 1 k n true) := by
    unfold sliceA
    simp only [hT, he, h1, Option.getD_none, Option.getD_some, Nat.zero_mul, Nat.zero_le, hk, Nat.sub_zero, Nat.zero_add]
    simp
  have h3 : arrOk T tt (.ptr c 0 0) s = true := by
    unfold arrOk
    simp only [hT, he, h1, Nat.mul_one, read_rd]
    rw [show rdH s.h c 0 0 n = some cs by rw [← hl]; exact hp]
    rfl
  simp only [evOp, evY_ok ht hx, evY_ok ht hvh, hn, h2, h3, optNat, if_true]
end
theorem arr_row {h : Tr Grp} {c k n : Nat} {cs : List AV} (hp : Pt h (.ptr c 0 0) cs) (hl : cs.length = n) (hk : k ≤ n) (hz : cs.all AV.leaf = true) : Row h 1 (.slc c 0 0 1 k n true) ((cs.take k).map fun x => [x]) := by
  refine ⟨rfl, by decide, by simp [hl, hk], hk, ?_, cs.drop k, ?_⟩
  · intro x hx
    obtain ⟨y, hy, rfl⟩ := List.mem_map.1 hx
    rw [List.all_eq_true] at hz
    exact ⟨rfl, by simp [hz y (List.mem_of_mem_take hy)]⟩
  · have hf : ∀ l : List AV, (l.map fun x => [x]).flatten = l := by
      intro l
      induction l with
      | nil => rfl
      | cons a l ih => rw [List.map_cons, List.flatten_cons, ih]; rfl
    rw [hf, List.take_append_drop, Nat.mul_one, ← hl]
    exact hp
end Go.Ab
/- The nodes behind one. -/
namespace Go.Ab
/-- One more node, if it is one and isn't there yet. -/
def putA2 (q : Int × Int × Nat) (b most : Int) : Int × Int × Nat := if 0 ≤ b ∧ b ≤ most ∧ (q.2.2 = 0 ∨ q.1 ≠ b) then (if q.2.2 = 0 then (b, q.2.1, 1) else (q.1, b, 2)) else q
def rawN (n : Int) (a : Int) (y : InstrL) : Int × Int × Nat :=
  if y.op = 43 then putA2 (0, 0, 0) y.a (n - 1)
  else if y.op = 44 then putA2 (putA2 (0, 0, 0) (a + 1) (n - 1)) y.a (n - 1)
  else if y.op = 46 then putA2 (0, 0, 0) n n
  else putA2 (0, 0, 0) (a + 1) (n - 1)
def srtN (q : Int × Int × Nat) : Int × Int × Nat := if q.2.2 = 2 ∧ q.1 > q.2.1 then (q.2.1, q.1, q.2.2) else q
def nextN (n a : Int) (y : InstrL) : List Int := ([(srtN (rawN n a y)).1, (srtN (rawN n a y)).2.1] : List Int).take (srtN (rawN n a y)).2.2
theorem putA2_le {q : Int × Int × Nat} {b most : Int} (h : q.2.2 ≤ 1) : (putA2 q b most).2.2 ≤ q.2.2 + 1 := by
  unfold putA2
  split
  · split
    · simp only; omega
    · simp only; omega
  · omega
theorem rawN_le (n a : Int) (y : InstrL) : (rawN n a y).2.2 ≤ 2 := by
  unfold rawN
  split
  · have := putA2_le (q := (0, 0, 0)) (b := y.a) (most := n - 1) (by simp); simp only at this; omega
  split
  · have h1 := putA2_le (q := (0, 0, 0)) (b := a + 1) (most := n - 1) (by simp)
    have h2 := putA2_le (q := putA2 (0, 0, 0) (a + 1) (n - 1)) (b := y.a) (most := n - 1) (by simpa using h1)
    simp only at h1; omega
  split
  · have := putA2_le (q := (0, 0, 0)) (b := n) (most := n) (by simp); simp only at this; omega
  · have := putA2_le (q := (0, 0, 0)) (b := a + 1) (most := n - 1) (by simp); simp only at this; omega
theorem srtN_cnt (q : Int × Int × Nat) : (srtN q).2.2 = q.2.2 := by unfold srtN; split <;> rfl
/-- The document's way. -/
def sec1 (n a : Int) (y : InstrL) : Int := if y.op = 43 ∨ y.op = 44 then (if 0 ≤ y.a ∧ y.a < n then y.a else n) else a + 1
def fst1 (n a : Int) (y : InstrL) : Int := if y.op = 43 then sec1 n a y else a + 1
def outN (n f g : Int) : List Int := (if f < n then [f] else []) ++ (if g < n ∧ g ≠ f then [g] else [])
def nextD (n a : Int) (y : InstrL) : List Int := if y.op = 46 then [n] else if fst1 n a y > sec1 n a y then outN n (sec1 n a y) (fst1 n a y) else outN n (fst1 n a y) (sec1 n a y)
theorem next_same {n a : Int} (hn : 0 < n) (ha : 0 ≤ a) (han : a < n) (y : InstrL) : nextD n a y = nextN n a y := by
  unfold nextD nextN
  by_cases h46 : y.op = 46
  · rw [if_pos h46]
    have : rawN n a y = (n, 0, 1) := by
      unfold rawN putA2
      rw [if_neg (by omega), if_neg (by omega), if_pos h46]
      simp; omega
    rw [this]; rfl
  rw [if_neg h46]
  by_cases h43 : y.op = 43
  · have hs : sec1 n a y = if 0 ≤ y.a ∧ y.a < n then y.a else n := by unfold sec1; rw [if_pos (.inl h43)]
    have hf : fst1 n a y = sec1 n a y := by unfold fst1; rw [if_pos h43]
    rw [hf, if_neg (by omega)]
    have hr : rawN n a y = putA2 (0, 0, 0) y.a (n - 1) := by unfold rawN; rw [if_pos h43]
    rw [hr]
    by_cases hc : 0 ≤ y.a ∧ y.a < n
    · rw [if_pos hc] at hs
      have : putA2 (0, 0, 0) y.a (n - 1) = (y.a, 0, 1) := by unfold putA2; rw [if_pos ⟨by omega, by omega, .inl rfl⟩]; rfl
      rw [this, hs]
      unfold outN srtN
      simp [hc.2]
    · rw [if_neg hc] at hs
      have : putA2 (0, 0, 0) y.a (n - 1) = (0, 0, 0) := by unfold putA2; rw [if_neg (by omega)]
      rw [this, hs]
      unfold outN srtN
      simp
  by_cases h44 : y.op = 44
  · have hs : sec1 n a y = if 0 ≤ y.a ∧ y.a < n then y.a else n := by unfold sec1; rw [if_pos (.inr h44)]
    have hf : fst1 n a y = a + 1 := by unfold fst1; rw [if_neg h43]
    have hr : rawN n a y = putA2 (putA2 (0, 0, 0) (a + 1) (n - 1)) y.a (n - 1) := by unfold rawN; rw [if_neg h43, if_pos h44]
    rw [hf, hr]
    by_cases ha1 : a + 1 < n
    · have e1 : putA2 (0, 0, 0) (a + 1) (n - 1) = (a + 1, 0, 1) := by unfold putA2; rw [if_pos ⟨by omega, by omega, .inl rfl⟩]; rfl
      rw [e1]
      by_cases hc : 0 ≤ y.a ∧ y.a < n
      · rw [if_pos hc] at hs
        by_cases he : a + 1 = y.a
        · have e2 : putA2 (a + 1, 0, 1) y.a (n - 1) = (a + 1, 0, 1) := by unfold putA2; rw [if_neg]; simp only; omega
          rw [e2, hs, if_neg (by omega)]
          unfold outN srtN
          simp [he]
          omega
        · have e2 : putA2 (a + 1, 0, 1) y.a (n - 1) = (a + 1, y.a, 2) := by unfold putA2; rw [if_pos ⟨by omega, by omega, .inr he⟩]; rfl
          rw [e2, hs]
          unfold outN srtN
          by_cases hg : a + 1 > y.a
          · rw [if_pos hg]
            simp [hg, hc.2, ha1, he]
          · rw [if_neg hg]
            simp [hg, hc.2, ha1, Ne.symm he]
      · rw [if_neg hc] at hs
        have e2 : putA2 (a + 1, 0, 1) y.a (n - 1) = (a + 1, 0, 1) := by unfold putA2; rw [if_neg (by omega)]
        rw [e2, hs, if_neg (by omega)]
        unfold outN srtN
        simp [ha1]
    · have e1 : putA2 (0, 0, 0) (a + 1) (n - 1) = (0, 0, 0) := by unfold putA2; rw [if_neg (by omega)]
      rw [e1]
      have hna : a + 1 = n := by omega
      by_cases hc : 0 ≤ y.a ∧ y.a < n
      · rw [if_pos hc] at hs
        have e2 : putA2 (0, 0, 0) y.a (n - 1) = (y.a, 0, 1) := by unfold putA2; rw [if_pos ⟨by omega, by omega, .inl rfl⟩]; rfl
        rw [e2, hs, if_pos (by omega)]
        unfold outN srtN
        simp [hc.2, hna]
      · rw [if_neg hc] at hs
        have e2 : putA2 (0, 0, 0) y.a (n - 1) = (0, 0, 0) := by unfold putA2; rw [if_neg (by omega)]
        rw [e2, hs, if_neg (by omega)]
        unfold outN srtN
        simp [hna]
  · have hs : sec1 n a y = a + 1 := by unfold sec1; rw [if_neg (by omega)]
    have hf : fst1 n a y = a + 1 := by unfold fst1; rw [if_neg h43]
    have hr : rawN n a y = putA2 (0, 0, 0) (a + 1) (n - 1) := by unfold rawN; rw [if_neg h43, if_neg h44, if_neg h46]
    rw [hs, hf, hr, if_neg (by omega)]
    by_cases ha1 : a + 1 < n
    · have e1 : putA2 (0, 0, 0) (a + 1) (n - 1) = (a + 1, 0, 1) := by unfold putA2; rw [if_pos ⟨by omega, by omega, .inl rfl⟩]; rfl
      rw [e1]
      unfold outN srtN
      simp [ha1]
    · have e1 : putA2 (0, 0, 0) (a + 1) (n - 1) = (0, 0, 0) := by unfold putA2; rw [if_neg (by omega)]
      rw [e1]
      unfold outN srtN
      simp [ha1]
theorem nextN_in {n a b : Int} (hn : 0 < n) (ha : 0 ≤ a) (han : a < n) {y : InstrL} (h : b ∈ nextN n a y) : 0 ≤ b ∧ b ≤ n := by
  rw [← next_same hn ha han] at h
  unfold nextD at h
  split at h
  · rw [List.mem_singleton.1 h]; omega
  · have key : ∀ f g : Int, 0 ≤ f → 0 ≤ g → b ∈ outN n f g → 0 ≤ b ∧ b ≤ n := by
      intro f g hf hg hb
      unfold outN at hb
      rcases List.mem_append.1 hb with hb | hb
      · split at hb
        · rw [List.mem_singleton.1 hb]; omega
        · cases hb
      · split at hb
        · rw [List.mem_singleton.1 hb]; omega
        · cases hb
    have h1 : 0 ≤ sec1 n a y := by unfold sec1; split; split; all_goals omega
    have h2 : 0 ≤ fst1 n a y := by unfold fst1; split; exact h1; omega
    split at h
    · exact key _ _ h1 h2 h
    · exact key _ _ h2 h1 h
end Go.Ab
/- graph.to, graph.Next. -/
namespace Go.Ab
open Go.Proofs
set_option maxRecDepth 10000 in
set_option maxHeartbeats 8000000 in
theorem put0_ok {s0 s : St} {c0 c3 : Chunk} {pl pn : Nat} {x0 x1 b most : Int} (hS : SH s0 [c0, ptC (.ptr pl 0 0) [.int .i64 x0, .int .i64 x1], ptC (.ptr pn 0 0) [.int .i64 ((0 : Nat) : Int)], c3] s) :
    CallS Try.prog Tt Kt 114 [.int .i64 b, .int .i64 most, .ptr pn 0 0, .ptr pl 0 0] s (fun r s' => r = .tup [] ∧ SH s0 [c0, ptC (.ptr pl 0 0) [.int .i64 (putA2 (x0, x1, 0) b most).1, .int .i64 (putA2 (x0, x1, 0) b most).2.1], ptC (.ptr pn 0 0) [.int .i64 ((putA2 (x0, x1, 0) b most).2.2 : Nat)], c3] s') := by
  refine call_of (fn := Try.f114) (nt := 28) Try.func114 rfl rfl rfl ?_
  repeat refine wc_seq ?_
  refine wc_region ?_
  refine w_val rfl rfl (op_pure rfl) ?_
  refine w_val rfl rfl (op_pure rfl) ?_
  refine w_val rfl rfl (op_pure rfl) ?_
  refine w_split (i := 8) rfl (fun h8 => ?_) (fun h8 => ?_)
  · simp only [decide_eq_true_eq, ge_iff_le] at h8
    refine w_val rfl rfl (op_pure rfl) ?_
    refine w_val rfl rfl (op_pure rfl) ?_
    refine w_val rfl rfl (op_pure rfl) ?_
    refine w_val rfl rfl (op_pure rfl) ?_
    refine w_val rfl rfl (op_pure rfl) ?_
    refine w_split (i := 13) rfl (fun h13 => ?_) (fun h13 => ?_)
    · simp only [decide_eq_true_eq] at h13
      refine w_val rfl rfl (op_loadC 2 hS rfl rfl rfl (Nat.le_of_ble_eq_true rfl) rfl) ?_
      refine w_val rfl rfl (op_int (v := .bool true) rfl rfl (by decide) rfl) ?_
      refine w_val rfl rfl (op_pure rfl) ?_
      refine w_off rfl rfl ?_
      refine w_off rfl rfl ?_
      refine w_off rfl rfl ?_
      refine w_off rfl rfl ?_
      refine w_val rfl rfl (op_pure rfl) ?_
      refine w_val rfl rfl (op_pure rfl) ?_
      refine w_nil ?_
      refine then_n ?_
      refine wc_cond_t rfl ?_
      repeat refine wc_seq ?_
      refine wc_region ?_
      refine w_val rfl rfl (op_loadC 2 hS rfl rfl rfl (Nat.le_of_ble_eq_true rfl) rfl) ?_
      refine w_val rfl rfl (op_pure rfl) ?_
      refine w_val rfl rfl (op_idxArr (k := 0) rfl rfl rfl rfl rfl rfl (by decide)) ?_
      refine ws_storeL 1 hS rfl rfl rfl rfl rfl rfl (by rfl) (Nat.le_of_ble_eq_true rfl) ?_
      rintro z hS
      have hS : SH _ [_, _, _, _] z := hS
      have hK := hS.K
      refine w_nil ?_
      refine then_n ?_
      refine wc_region ?_
      refine w_val rfl rfl (op_loadC 2 hS rfl rfl rfl (Nat.le_of_ble_eq_true rfl) rfl) ?_
      refine w_val rfl rfl (op_add rfl rfl (by unfold In64; omega)) ?_
      refine ws_storeL 2 hS rfl rfl rfl rfl rfl rfl (by rfl) (Nat.le_of_ble_eq_true rfl) ?_
      rintro z hS
      have hS : SH _ [_, _, _, _] z := hS
      have hK := hS.K
      refine w_nil ?_
      have e : putA2 (x0, x1, 0) b most = (b, x1, 1) := by unfold putA2; rw [if_pos ⟨h8, h13, .inl rfl⟩]; rfl
      rw [e]
      exact ⟨_, rfl, rfl, hS⟩
    simp only [decide_eq_false_iff_not] at h13
    refine w_off rfl rfl ?_
    refine w_off rfl rfl ?_
    refine w_off rfl rfl ?_
    refine w_off rfl rfl ?_
    refine w_off rfl rfl ?_
    refine w_off rfl rfl ?_
    refine w_off rfl rfl ?_
    refine w_off rfl rfl ?_
    refine w_val rfl rfl (op_pure rfl) ?_
    refine w_nil ?_
    refine then_n ?_
    refine wc_cond_f rfl ?_
    refine wc_skip ?_
    have e : putA2 (x0, x1, 0) b most = (x0, x1, 0) := by unfold putA2; rw [if_neg (fun h => h13 h.2.1)]
    rw [e]
    exact ⟨_, rfl, rfl, hS⟩
  simp only [decide_eq_false_iff_not, ge_iff_le] at h8
  refine w_off rfl rfl ?_
  refine w_off rfl rfl ?_
  refine w_off rfl rfl ?_
  refine w_val rfl rfl (op_pure rfl) ?_
  refine w_val rfl rfl (op_pure rfl) ?_
  refine w_off rfl rfl ?_
  refine w_off rfl rfl ?_
  refine w_off rfl rfl ?_
  refine w_off rfl rfl ?_
  refine w_off rfl rfl ?_
  refine w_off rfl rfl ?_
  refine w_off rfl rfl ?_
  refine w_off rfl rfl ?_
  refine w_val rfl rfl (op_pure rfl) ?_
  refine w_nil ?_
  refine then_n ?_
  refine wc_cond_f rfl ?_
  refine wc_skip ?_
  have e : putA2 (x0, x1, 0) b most = (x0, x1, 0) := by unfold putA2; rw [if_neg (fun h => h8 h.1)]
  rw [e]
  exact ⟨_, rfl, rfl, hS⟩
-- unused hook: memt17
-- unused hook: ownt17
set_option maxRecDepth 10000 in
set_option maxHeartbeats 8000000 in
theorem put1_ok {s0 s : St} {c0 c3 : Chunk} {pl pn : Nat} {x0 x1 b most : Int} (hS : SH s0 [c0, ptC (.ptr pl 0 0) [.int .i64 x0, .int .i64 x1], ptC (.ptr pn 0 0) [.int .i64 ((1 : Nat) : Int)], c3] s) :
    CallS Try.prog Tt Kt 114 [.int .i64 b, .int .i64 most, .ptr pn 0 0, .ptr pl 0 0] s (fun r s' => r = .tup [] ∧ SH s0 [c0, ptC (.ptr pl 0 0) [.int .i64 (putA2 (x0, x1, 1) b most).1, .int .i64 (putA2 (x0, x1, 1) b most).2.1], ptC (.ptr pn 0 0) [.int .i64 ((putA2 (x0, x1, 1) b most).2.2 : Nat)], c3] s') := by
  refine call_of (fn := Try.f114) (nt := 28) Try.func114 rfl rfl rfl ?_
  repeat refine wc_seq ?_
  refine wc_region ?_
  refine w_val rfl rfl (op_pure rfl) ?_
  refine w_val rfl rfl (op_pure rfl) ?_
  refine w_val rfl rfl (op_pure rfl) ?_
  refine w_split (i := 8) rfl (fun h8 => ?_) (fun h8 => ?_)
  · simp only [decide_eq_true_eq, ge_iff_le] at h8
    refine w_val rfl rfl (op_pure rfl) ?_
    refine w_val rfl rfl (op_pure rfl) ?_
    refine w_val rfl rfl (op_pure rfl) ?_
    refine w_val rfl rfl (op_pure rfl) ?_
    refine w_val rfl rfl (op_pure rfl) ?_
    refine w_split (i := 13) rfl (fun h13 => ?_) (fun h13 => ?_)
    · simp only [decide_eq_true_eq] at h13
      refine w_val rfl rfl (op_loadC 2 hS rfl rfl rfl (Nat.le_of_ble_eq_true rfl) rfl) ?_
      refine w_val rfl rfl (op_int (v := .bool false) rfl rfl (by decide) rfl) ?_
      refine w_val rfl rfl (op_pure rfl) ?_
      refine w_val rfl rfl (op_idxArr (k := 0) rfl rfl rfl rfl rfl rfl (by decide)) ?_
      refine w_val rfl rfl (op_loadC 1 hS rfl rfl rfl (Nat.le_of_ble_eq_true rfl) rfl) ?_
      refine w_val rfl rfl (op_pure rfl) ?_
      refine w_val rfl rfl (op_pure rfl) ?_
      refine w_val rfl rfl (op_pure rfl) ?_
      refine w_val rfl rfl (op_pure rfl) ?_
      refine w_nil ?_
      refine then_n ?_
      refine wc_condT rfl (fun h22 => ?_) (fun h22 => ?_)
      · simp only [ne_eq, bne_iff_ne] at h22
        repeat refine wc_seq ?_
        refine wc_region ?_
        refine w_val rfl rfl (op_loadC 2 hS rfl rfl rfl (Nat.le_of_ble_eq_true rfl) rfl) ?_
        refine w_val rfl rfl (op_pure rfl) ?_
        refine w_val rfl rfl (op_idxArr (k := 1) rfl rfl rfl rfl rfl rfl (by decide)) ?_
        refine ws_storeL 1 hS rfl rfl rfl rfl rfl rfl (by rfl) (Nat.le_of_ble_eq_true rfl) ?_
        rintro z hS
        have hS : SH _ [_, _, _, _] z := hS
        have hK := hS.K
        refine w_nil ?_
        refine then_n ?_
        refine wc_region ?_
        refine w_val rfl rfl (op_loadC 2 hS rfl rfl rfl (Nat.le_of_ble_eq_true rfl) rfl) ?_
        refine w_val rfl rfl (op_add rfl rfl (by unfold In64; omega)) ?_
        refine ws_storeL 2 hS rfl rfl rfl rfl rfl rfl (by rfl) (Nat.le_of_ble_eq_true rfl) ?_
        rintro z hS
        have hS : SH _ [_, _, _, _] z := hS
        have hK := hS.K
        refine w_nil ?_
        have e : putA2 (x0, x1, 1) b most = (x0, b, 2) := by unfold putA2; rw [if_pos ⟨h8, h13, .inr h22⟩]; rfl
        rw [e]
        exact ⟨_, rfl, rfl, hS⟩
      simp only [bne_eq_false_iff_eq] at h22
      refine wc_skip ?_
      have e : putA2 (x0, x1, 1) b most = (x0, x1, 1) := by unfold putA2; rw [if_neg]; rintro ⟨_, _, h | h⟩; cases h; exact h h22
      rw [e]
      exact ⟨_, rfl, rfl, hS⟩
    simp only [decide_eq_false_iff_not] at h13
    refine w_off rfl rfl ?_
    refine w_off rfl rfl ?_
    refine w_off rfl rfl ?_
    refine w_off rfl rfl ?_
    refine w_off rfl rfl ?_
    refine w_off rfl rfl ?_
    refine w_off rfl rfl ?_
    refine w_off rfl rfl ?_
    refine w_val rfl rfl (op_pure rfl) ?_
    refine w_nil ?_
    refine then_n ?_
    refine wc_cond_f rfl ?_
    refine wc_skip ?_
    have e : putA2 (x0, x1, 1) b most = (x0, x1, 1) := by unfold putA2; rw [if_neg (fun h => h13 h.2.1)]
    rw [e]
    exact ⟨_, rfl, rfl, hS⟩
  simp only [decide_eq_false_iff_not, ge_iff_le] at h8
  refine w_off rfl rfl ?_
  refine w_off rfl rfl ?_
  refine w_off rfl rfl ?_
  refine w_val rfl rfl (op_pure rfl) ?_
  refine w_val rfl rfl (op_pure rfl) ?_
  refine w_off rfl rfl ?_
  refine w_off rfl rfl ?_
  refine w_off rfl rfl ?_
  refine w_off rfl rfl ?_
  refine w_off rfl rfl ?_
  refine w_off rfl rfl ?_
  refine w_off rfl rfl ?_
  refine w_off rfl rfl ?_
  refine w_val rfl rfl (op_pure rfl) ?_
  refine w_nil ?_
  refine then_n ?_
  refine wc_cond_f rfl ?_
  refine wc_skip ?_
  have e : putA2 (x0, x1, 1) b most = (x0, x1, 1) := by unfold putA2; rw [if_neg (fun h => h8 h.1)]
  rw [e]
  exact ⟨_, rfl, rfl, hS⟩
theorem put_ok {s0 s : St} {c0 c3 : Chunk} {pl pn : Nat} {b most : Int} (q : Int × Int × Nat) (hq : q.2.2 ≤ 1) (hS : SH s0 [c0, ptC (.ptr pl 0 0) [.int .i64 q.1, .int .i64 q.2.1], ptC (.ptr pn 0 0) [.int .i64 (q.2.2 : Nat)], c3] s) :
    CallS Try.prog Tt Kt 114 [.int .i64 b, .int .i64 most, .ptr pn 0 0, .ptr pl 0 0] s (fun r s' => r = .tup [] ∧ SH s0 [c0, ptC (.ptr pl 0 0) [.int .i64 (putA2 q b most).1, .int .i64 (putA2 q b most).2.1], ptC (.ptr pn 0 0) [.int .i64 ((putA2 q b most).2.2 : Nat)], c3] s') := by
  obtain ⟨x0, x1, k⟩ := q
  match k, hq with
  | 0, _ => exact put0_ok hS
  | 1, _ => exact put1_ok hS
set_option maxRecDepth 10000 in
set_option maxHeartbeats 8000000 in
theorem to_ok {s : St} {v : AV} {l : List InstrL} {a : Nat} {y : InstrL} (hok : s.Ok) (hv : Row s.h 2 v (l.map inC)) (hl : l.length ≤ 2097152) (hy : l[a]? = some y) :
    CallS Try.prog Tt Kt 99 [v, .int .i64 (a : Nat)] s (fun r s' => Keep [] s s' ∧ r = .tup [.agg [.int .i64 (srtN (rawN l.length a y)).1, .int .i64 (srtN (rawN l.length a y)).2.1], .int .i64 ((srtN (rawN l.length a y)).2.2 : Nat)]) := by
  have ha := (List.getElem?_eq_some_iff.1 hy).1
  refine call_of (fn := Try.f99) (nt := 70) Try.func99 rfl rfl rfl ?_
  repeat refine wc_seq ?_
  have hS := SH.start hok
  have hK := hS.K
  refine wc_region ?_
  refine ws_alloc hS rfl rfl rfl rfl ?_
  rintro p0 z hS hk
  have hS : SH _ [_] z := hS
  have hK := hS.K
  refine w_val rfl rfl (op_pure rfl) ?_
  refine w_nil ?_
  refine then_n ?_
  repeat refine wc_seq ?_
  refine wc_region ?_
  refine ws_alloc hS rfl rfl rfl rfl ?_
  rintro p1 z hS hk
  have hS : SH _ [_, _] z := hS
  have hK := hS.K
  refine w_nil ?_
  refine then_n ?_
  repeat refine wc_seq ?_
  refine wc_region ?_
  refine ws_alloc hS rfl rfl rfl rfl ?_
  rintro p2 z hS hk
  have hS : SH _ [_, _, _] z := hS
  have hK := hS.K
  refine ws_storeL 2 hS rfl rfl rfl rfl rfl rfl (by rfl) (Nat.le_of_ble_eq_true rfl) ?_
  rintro z hS
  have hS : SH _ [_, _, _] z := hS
  have hK := hS.K
  refine w_nil ?_
  refine then_n ?_
  repeat refine wc_seq ?_
  refine wc_region ?_
  refine w_val rfl rfl (op_pure rfl) ?_
  refine w_val rfl rfl (op_pure rfl) ?_
  refine w_nil ?_
  refine then_n ?_
  repeat refine wc_seq ?_
  refine wc_region ?_
  refine w_val rfl rfl (op_pure rfl) ?_
  refine w_val rfl rfl (op_len rfl rfl rfl rfl rfl hv.slenF) ?_
  refine w_val rfl rfl (op_sub rfl rfl (by unfold In64; omega)) ?_
  refine w_val rfl rfl (op_pure rfl) ?_
  refine w_nil ?_
  refine then_n ?_
  repeat refine wc_seq ?_
  have hvz := hv.keep0 hK
  refine wc_region ?_
  refine w_val rfl rfl (op_pure rfl) ?_
  refine w_val rfl rfl (op_pure rfl) ?_
  refine w_val rfl rfl (op_idxF rfl rfl (natA_cast _ _) rfl rfl rfl rfl hvz (by omega)) ?_
  refine w_val rfl rfl (op_load (v := .agg (inC y)) rfl rfl (Row.mk_pt hvz hy) rfl) ?_
  refine ws_alloc hS rfl rfl rfl rfl ?_
  rintro p3 z hS hk
  have hS : SH _ [_, _, _, _] z := hS
  have hK := hS.K
  refine ws_store 3 hS rfl rfl rfl rfl rfl rfl (by rfl) (Nat.le_of_ble_eq_true rfl) ?_
  rintro z hS
  have hS : SH _ [_, _, _, _] z := hS
  have hK := hS.K
  refine w_nil ?_
  refine then_n ?_
  repeat refine wc_seq ?_
  refine wc_region ?_
  refine w_val rfl rfl (op_fldP rfl rfl rfl rfl (by decide)) ?_
  refine w_val rfl rfl (op_loadC 3 hS rfl rfl rfl (Nat.le_of_ble_eq_true rfl) rfl) ?_
  refine w_nil ?_
  refine then_n ?_
  repeat refine wc_seq ?_
  refine wc_block ?_
  repeat refine wc_seq ?_
  refine wc_region ?_
  refine w_val rfl rfl (op_pure rfl) ?_
  refine w_val rfl rfl (op_pure rfl) ?_
  refine w_nil ?_
  refine then_n ?_
  refine wc_condT rfl (fun h26 => ?_) (fun h26 => ?_)
  · simp only [beq_iff_eq] at h26
    refine wc_region ?_
    refine w_val rfl rfl (op_pure rfl) ?_
    refine w_val rfl rfl (op_fldP rfl rfl rfl rfl (by decide)) ?_
    refine w_val rfl rfl (op_loadC 3 hS rfl rfl rfl (Nat.le_of_ble_eq_true rfl) rfl) ?_
    refine w_val rfl rfl (op_pure rfl) ?_
    refine w_call rfl rfl (op_call rfl rfl rfl rfl) (put_ok (0, 0, 0) (by decide) hS) ?_
    rintro _ z ⟨rfl, hS⟩
    rw [show putA2 (0, 0, 0) _ _ = rawN l.length a y by unfold rawN; rw [if_pos h26]] at hS
    have hK := hS.K
    have hcnt := rawN_le l.length a y
    refine w_nil ?_
    refine out_n ?_
    refine then_n ?_
    repeat refine wc_seq ?_
    refine wc_region ?_
    refine w_val rfl rfl (op_loadC 2 hS rfl rfl rfl (Nat.le_of_ble_eq_true rfl) rfl) ?_
    refine w_val rfl rfl (op_pure rfl) ?_
    refine w_val rfl rfl (op_pure rfl) ?_
    refine w_split (i := 55) rfl (fun h55 => ?_) (fun h55 => ?_)
    · simp only [beq_iff_eq] at h55
      refine w_val rfl rfl (op_idxArr (k := 0) rfl rfl rfl rfl rfl rfl (by decide)) ?_
      refine w_val rfl rfl (op_loadC 1 hS rfl rfl rfl (Nat.le_of_ble_eq_true rfl) rfl) ?_
      refine w_val rfl rfl (op_idxArr (k := 1) rfl rfl rfl rfl rfl rfl (by decide)) ?_
      refine w_val rfl rfl (op_loadC 1 hS rfl rfl rfl (Nat.le_of_ble_eq_true rfl) rfl) ?_
      refine w_val rfl rfl (op_pure rfl) ?_
      refine w_val rfl rfl (op_pure rfl) ?_
      refine w_nil ?_
      refine then_n ?_
      repeat refine wc_seq ?_
      refine wc_condT rfl (fun h61 => ?_) (fun h61 => ?_)
      · simp only [decide_eq_true_eq, gt_iff_lt] at h61
        refine wc_region ?_
        refine w_val rfl rfl (op_idxArr (k := 1) rfl rfl rfl rfl rfl rfl (by decide)) ?_
        refine w_val rfl rfl (op_loadC 1 hS rfl rfl rfl (Nat.le_of_ble_eq_true rfl) rfl) ?_
        refine w_val rfl rfl (op_idxArr (k := 0) rfl rfl rfl rfl rfl rfl (by decide)) ?_
        refine w_val rfl rfl (op_loadC 1 hS rfl rfl rfl (Nat.le_of_ble_eq_true rfl) rfl) ?_
        refine w_val rfl rfl (op_idxArr (k := 0) rfl rfl rfl rfl rfl rfl (by decide)) ?_
        refine ws_storeL 1 hS rfl rfl rfl rfl rfl rfl (by rfl) (Nat.le_of_ble_eq_true rfl) ?_
        rintro z hS
        have hS : SH _ [_, _, _, _] z := hS
        have hK := hS.K
        refine w_val rfl rfl (op_idxArr (k := 1) rfl rfl rfl rfl rfl rfl (by decide)) ?_
        refine ws_storeL 1 hS rfl rfl rfl rfl rfl rfl (by rfl) (Nat.le_of_ble_eq_true rfl) ?_
        rintro z hS
        have hS : SH _ [_, _, _, _] z := hS
        have hK := hS.K
        refine w_nil ?_
        refine then_n ?_
        repeat refine wc_seq ?_
        have hR := Keep.refl hS.ok
        have hx1 : ∀ g ∈ [p1], g ∉ [p0] := fun g hg h => hS.dis 1 0 _ _ (by decide) rfl rfl g hg h
        have hx2 : ∀ g ∈ [p2], g ∉ [p0] := fun g hg h => hS.dis 2 0 _ _ (by decide) rfl rfl g hg h
        refine wc_draw (Old z [p0]) (by kernel_rfl) rfl ?_
        refine wo_load hR rfl rfl ((hS.pt 1 rfl).at (Nat.le_of_ble_eq_true rfl)) rfl hx1 rfl rfl ?_
        refine wo_load hR rfl rfl ((hS.pt 2 rfl).at (Nat.le_of_ble_eq_true rfl)) rfl hx2 rfl rfl ?_
        refine wo_store_all (p := .ptr p0 0 0) hR (fun g hg => hg) rfl rfl rfl rfl rfl (by rfl) rfl (hS.pt 0 rfl) (by simp [AV.gs]) ?_
        rintro z hp hk hc
        have hS := hS.upd 0 rfl hk (fun g hg => hg) (ptC (.ptr p0 0 0) _) hp (fun g hg => .inl hg)
        have hS : SH _ [_, _, _, _] z := hS
        have hK := hS.K
        refine wo_val (fun _ => rfl) rfl rfl (op_pure rfl) ?_
        refine wd_nil ?_
        refine then_n ?_
        refine wc_ret ?_
        repeat first | refine then_r ?_ | refine out_r ?_ | refine round_r ?_ | refine cut_r ?_ | refine sc_r ?_
        exact ⟨_, res_cell2 rfl rfl rfl (hS.pt 0 rfl) rfl, hK, by first
          | (have e : srtN (rawN l.length a y) = ((rawN l.length a y).2.1, (rawN l.length a y).1, (rawN l.length a y).2.2) := (by unfold srtN; rw [if_pos ⟨by omega, h61⟩])
             rw [e]; rfl)
          | (have e : srtN (rawN l.length a y) = rawN l.length a y := (by unfold srtN; rw [if_neg (by omega)])
             rw [e]; rfl)⟩
      simp only [decide_eq_false_iff_not, gt_iff_lt] at h61
      refine wc_skip ?_
      refine then_n ?_
      repeat refine wc_seq ?_
      have hR := Keep.refl hS.ok
      have hx1 : ∀ g ∈ [p1], g ∉ [p0] := fun g hg h => hS.dis 1 0 _ _ (by decide) rfl rfl g hg h
      have hx2 : ∀ g ∈ [p2], g ∉ [p0] := fun g hg h => hS.dis 2 0 _ _ (by decide) rfl rfl g hg h
      refine wc_draw (Old z [p0]) (by kernel_rfl) rfl ?_
      refine wo_load hR rfl rfl ((hS.pt 1 rfl).at (Nat.le_of_ble_eq_true rfl)) rfl hx1 rfl rfl ?_
      refine wo_load hR rfl rfl ((hS.pt 2 rfl).at (Nat.le_of_ble_eq_true rfl)) rfl hx2 rfl rfl ?_
      refine wo_store_all (p := .ptr p0 0 0) hR (fun g hg => hg) rfl rfl rfl rfl rfl (by rfl) rfl (hS.pt 0 rfl) (by simp [AV.gs]) ?_
      rintro z hp hk hc
      have hS := hS.upd 0 rfl hk (fun g hg => hg) (ptC (.ptr p0 0 0) _) hp (fun g hg => .inl hg)
      have hS : SH _ [_, _, _, _] z := hS
      have hK := hS.K
      refine wo_val (fun _ => rfl) rfl rfl (op_pure rfl) ?_
      refine wd_nil ?_
      refine then_n ?_
      refine wc_ret ?_
      repeat first | refine then_r ?_ | refine out_r ?_ | refine round_r ?_ | refine cut_r ?_ | refine sc_r ?_
      exact ⟨_, res_cell2 rfl rfl rfl (hS.pt 0 rfl) rfl, hK, by first
        | (have e : srtN (rawN l.length a y) = ((rawN l.length a y).2.1, (rawN l.length a y).1, (rawN l.length a y).2.2) := (by unfold srtN; rw [if_pos ⟨by omega, h61⟩])
           rw [e]; rfl)
        | (have e : srtN (rawN l.length a y) = rawN l.length a y := (by unfold srtN; rw [if_neg (by omega)])
           rw [e]; rfl)⟩
    simp only [beq_eq_false_iff_ne, ne_eq] at h55
    refine w_off rfl rfl ?_
    refine w_off rfl rfl ?_
    refine w_off rfl rfl ?_
    refine w_off rfl rfl ?_
    refine w_off rfl rfl ?_
    refine w_val rfl rfl (op_pure rfl) ?_
    refine w_nil ?_
    refine then_n ?_
    repeat refine wc_seq ?_
    refine wc_cond_f rfl ?_
    refine wc_skip ?_
    refine then_n ?_
    repeat refine wc_seq ?_
    have hR := Keep.refl hS.ok
    have hx1 : ∀ g ∈ [p1], g ∉ [p0] := fun g hg h => hS.dis 1 0 _ _ (by decide) rfl rfl g hg h
    have hx2 : ∀ g ∈ [p2], g ∉ [p0] := fun g hg h => hS.dis 2 0 _ _ (by decide) rfl rfl g hg h
    refine wc_draw (Old z [p0]) (by kernel_rfl) rfl ?_
    refine wo_load hR rfl rfl ((hS.pt 1 rfl).at (Nat.le_of_ble_eq_true rfl)) rfl hx1 rfl rfl ?_
    refine wo_load hR rfl rfl ((hS.pt 2 rfl).at (Nat.le_of_ble_eq_true rfl)) rfl hx2 rfl rfl ?_
    refine wo_store_all (p := .ptr p0 0 0) hR (fun g hg => hg) rfl rfl rfl rfl rfl (by rfl) rfl (hS.pt 0 rfl) (by simp [AV.gs]) ?_
    rintro z hp hk hc
    have hS := hS.upd 0 rfl hk (fun g hg => hg) (ptC (.ptr p0 0 0) _) hp (fun g hg => .inl hg)
    have hS : SH _ [_, _, _, _] z := hS
    have hK := hS.K
    refine wo_val (fun _ => rfl) rfl rfl (op_pure rfl) ?_
    refine wd_nil ?_
    refine then_n ?_
    refine wc_ret ?_
    repeat first | refine then_r ?_ | refine out_r ?_ | refine round_r ?_ | refine cut_r ?_ | refine sc_r ?_
    exact ⟨_, res_cell2 rfl rfl rfl (hS.pt 0 rfl) rfl, hK, by first
      | (have e : srtN (rawN l.length a y) = ((rawN l.length a y).2.1, (rawN l.length a y).1, (rawN l.length a y).2.2) := (by unfold srtN; rw [if_pos ⟨by omega, h61⟩])
         rw [e]; rfl)
      | (have e : srtN (rawN l.length a y) = rawN l.length a y := (by unfold srtN; rw [if_neg (by omega)])
         rw [e]; rfl)⟩
  simp only [beq_eq_false_iff_ne, ne_eq] at h26
  repeat refine wc_seq ?_
  refine wc_region ?_
  refine w_val rfl rfl (op_pure rfl) ?_
  refine w_val rfl rfl (op_pure rfl) ?_
  refine w_nil ?_
  refine then_n ?_
  refine wc_condT rfl (fun h33 => ?_) (fun h33 => ?_)
  · simp only [beq_iff_eq] at h33
    repeat refine wc_seq ?_
    refine wc_region ?_
    refine w_val rfl rfl (op_pure rfl) ?_
    refine w_val rfl rfl (op_pure rfl) ?_
    refine w_val rfl rfl (op_add rfl rfl (by unfold In64; omega)) ?_
    refine w_val rfl rfl (op_pure rfl) ?_
    refine w_call rfl rfl (op_call rfl rfl rfl rfl) (put_ok (0, 0, 0) (by decide) hS) ?_
    rintro _ z ⟨rfl, hS⟩
    have hK := hS.K
    refine w_nil ?_
    refine then_n ?_
    refine wc_region ?_
    refine w_val rfl rfl (op_pure rfl) ?_
    refine w_val rfl rfl (op_fldP rfl rfl rfl rfl (by decide)) ?_
    refine w_val rfl rfl (op_loadC 3 hS rfl rfl rfl (Nat.le_of_ble_eq_true rfl) rfl) ?_
    refine w_val rfl rfl (op_pure rfl) ?_
    refine w_call rfl rfl (op_call rfl rfl rfl rfl) (put_ok (putA2 (0, 0, 0) ((a : Int) + 1) ((l.length : Int) - 1)) (putA2_le (by decide)) hS) ?_
    rintro _ z ⟨rfl, hS⟩
    rw [show putA2 (putA2 (0, 0, 0) _ _) _ _ = rawN l.length a y by unfold rawN; rw [if_neg h26, if_pos h33]] at hS
    have hK := hS.K
    have hcnt := rawN_le l.length a y
    refine w_nil ?_
    refine out_n ?_
    refine then_n ?_
    repeat refine wc_seq ?_
    refine wc_region ?_
    refine w_val rfl rfl (op_loadC 2 hS rfl rfl rfl (Nat.le_of_ble_eq_true rfl) rfl) ?_
    refine w_val rfl rfl (op_pure rfl) ?_
    refine w_val rfl rfl (op_pure rfl) ?_
    refine w_split (i := 55) rfl (fun h55 => ?_) (fun h55 => ?_)
    · simp only [beq_iff_eq] at h55
      refine w_val rfl rfl (op_idxArr (k := 0) rfl rfl rfl rfl rfl rfl (by decide)) ?_
      refine w_val rfl rfl (op_loadC 1 hS rfl rfl rfl (Nat.le_of_ble_eq_true rfl) rfl) ?_
      refine w_val rfl rfl (op_idxArr (k := 1) rfl rfl rfl rfl rfl rfl (by decide)) ?_
      refine w_val rfl rfl (op_loadC 1 hS rfl rfl rfl (Nat.le_of_ble_eq_true rfl) rfl) ?_
      refine w_val rfl rfl (op_pure rfl) ?_
      refine w_val rfl rfl (op_pure rfl) ?_
      refine w_nil ?_
      refine then_n ?_
      repeat refine wc_seq ?_
      refine wc_condT rfl (fun h61 => ?_) (fun h61 => ?_)
      · simp only [decide_eq_true_eq, gt_iff_lt] at h61
        refine wc_region ?_
        refine w_val rfl rfl (op_idxArr (k := 1) rfl rfl rfl rfl rfl rfl (by decide)) ?_
        refine w_val rfl rfl (op_loadC 1 hS rfl rfl rfl (Nat.le_of_ble_eq_true rfl) rfl) ?_
        refine w_val rfl rfl (op_idxArr (k := 0) rfl rfl rfl rfl rfl rfl (by decide)) ?_
        refine w_val rfl rfl (op_loadC 1 hS rfl rfl rfl (Nat.le_of_ble_eq_true rfl) rfl) ?_
        refine w_val rfl rfl (op_idxArr (k := 0) rfl rfl rfl rfl rfl rfl (by decide)) ?_
        refine ws_storeL 1 hS rfl rfl rfl rfl rfl rfl (by rfl) (Nat.le_of_ble_eq_true rfl) ?_
        rintro z hS
        have hS : SH _ [_, _, _, _] z := hS
        have hK := hS.K
        refine w_val rfl rfl (op_idxArr (k := 1) rfl rfl rfl rfl rfl rfl (by decide)) ?_
        refine ws_storeL 1 hS rfl rfl rfl rfl rfl rfl (by rfl) (Nat.le_of_ble_eq_true rfl) ?_
        rintro z hS
        have hS : SH _ [_, _, _, _] z := hS
        have hK := hS.K
        refine w_nil ?_
        refine then_n ?_
        repeat refine wc_seq ?_
        have hR := Keep.refl hS.ok
        have hx1 : ∀ g ∈ [p1], g ∉ [p0] := fun g hg h => hS.dis 1 0 _ _ (by decide) rfl rfl g hg h
        have hx2 : ∀ g ∈ [p2], g ∉ [p0] := fun g hg h => hS.dis 2 0 _ _ (by decide) rfl rfl g hg h
        refine wc_draw (Old z [p0]) (by kernel_rfl) rfl ?_
        refine wo_load hR rfl rfl ((hS.pt 1 rfl).at (Nat.le_of_ble_eq_true rfl)) rfl hx1 rfl rfl ?_
        refine wo_load hR rfl rfl ((hS.pt 2 rfl).at (Nat.le_of_ble_eq_true rfl)) rfl hx2 rfl rfl ?_
        refine wo_store_all (p := .ptr p0 0 0) hR (fun g hg => hg) rfl rfl rfl rfl rfl (by rfl) rfl (hS.pt 0 rfl) (by simp [AV.gs]) ?_
        rintro z hp hk hc
        have hS := hS.upd 0 rfl hk (fun g hg => hg) (ptC (.ptr p0 0 0) _) hp (fun g hg => .inl hg)
        have hS : SH _ [_, _, _, _] z := hS
        have hK := hS.K
        refine wo_val (fun _ => rfl) rfl rfl (op_pure rfl) ?_
        refine wd_nil ?_
        refine then_n ?_
        refine wc_ret ?_
        repeat first | refine then_r ?_ | refine out_r ?_ | refine round_r ?_ | refine cut_r ?_ | refine sc_r ?_
        exact ⟨_, res_cell2 rfl rfl rfl (hS.pt 0 rfl) rfl, hK, by first
          | (have e : srtN (rawN l.length a y) = ((rawN l.length a y).2.1, (rawN l.length a y).1, (rawN l.length a y).2.2) := (by unfold srtN; rw [if_pos ⟨by omega, h61⟩])
             rw [e]; rfl)
          | (have e : srtN (rawN l.length a y) = rawN l.length a y := (by unfold srtN; rw [if_neg (by omega)])
             rw [e]; rfl)⟩
      simp only [decide_eq_false_iff_not, gt_iff_lt] at h61
      refine wc_skip ?_
      refine then_n ?_
      repeat refine wc_seq ?_
      have hR := Keep.refl hS.ok
      have hx1 : ∀ g ∈ [p1], g ∉ [p0] := fun g hg h => hS.dis 1 0 _ _ (by decide) rfl rfl g hg h
      have hx2 : ∀ g ∈ [p2], g ∉ [p0] := fun g hg h => hS.dis 2 0 _ _ (by decide) rfl rfl g hg h
      refine wc_draw (Old z [p0]) (by kernel_rfl) rfl ?_
      refine wo_load hR rfl rfl ((hS.pt 1 rfl).at (Nat.le_of_ble_eq_true rfl)) rfl hx1 rfl rfl ?_
      refine wo_load hR rfl rfl ((hS.pt 2 rfl).at (Nat.le_of_ble_eq_true rfl)) rfl hx2 rfl rfl ?_
      refine wo_store_all (p := .ptr p0 0 0) hR (fun g hg => hg) rfl rfl rfl rfl rfl (by rfl) rfl (hS.pt 0 rfl) (by simp [AV.gs]) ?_
      rintro z hp hk hc
      have hS := hS.upd 0 rfl hk (fun g hg => hg) (ptC (.ptr p0 0 0) _) hp (fun g hg => .inl hg)
      have hS : SH _ [_, _, _, _] z := hS
      have hK := hS.K
      refine wo_val (fun _ => rfl) rfl rfl (op_pure rfl) ?_
      refine wd_nil ?_
      refine then_n ?_
      refine wc_ret ?_
      repeat first | refine then_r ?_ | refine out_r ?_ | refine round_r ?_ | refine cut_r ?_ | refine sc_r ?_
      exact ⟨_, res_cell2 rfl rfl rfl (hS.pt 0 rfl) rfl, hK, by first
        | (have e : srtN (rawN l.length a y) = ((rawN l.length a y).2.1, (rawN l.length a y).1, (rawN l.length a y).2.2) := (by unfold srtN; rw [if_pos ⟨by omega, h61⟩])
           rw [e]; rfl)
        | (have e : srtN (rawN l.length a y) = rawN l.length a y := (by unfold srtN; rw [if_neg (by omega)])
           rw [e]; rfl)⟩
    simp only [beq_eq_false_iff_ne, ne_eq] at h55
    refine w_off rfl rfl ?_
    refine w_off rfl rfl ?_
    refine w_off rfl rfl ?_
    refine w_off rfl rfl ?_
    refine w_off rfl rfl ?_
    refine w_val rfl rfl (op_pure rfl) ?_
    refine w_nil ?_
    refine then_n ?_
    repeat refine wc_seq ?_
    refine wc_cond_f rfl ?_
    refine wc_skip ?_
    refine then_n ?_
    repeat refine wc_seq ?_
    have hR := Keep.refl hS.ok
    have hx1 : ∀ g ∈ [p1], g ∉ [p0] := fun g hg h => hS.dis 1 0 _ _ (by decide) rfl rfl g hg h
    have hx2 : ∀ g ∈ [p2], g ∉ [p0] := fun g hg h => hS.dis 2 0 _ _ (by decide) rfl rfl g hg h
    refine wc_draw (Old z [p0]) (by kernel_rfl) rfl ?_
    refine wo_load hR rfl rfl ((hS.pt 1 rfl).at (Nat.le_of_ble_eq_true rfl)) rfl hx1 rfl rfl ?_
    refine wo_load hR rfl rfl ((hS.pt 2 rfl).at (Nat.le_of_ble_eq_true rfl)) rfl hx2 rfl rfl ?_
    refine wo_store_all (p := .ptr p0 0 0) hR (fun g hg => hg) rfl rfl rfl rfl rfl (by rfl) rfl (hS.pt 0 rfl) (by simp [AV.gs]) ?_
    rintro z hp hk hc
    have hS := hS.upd 0 rfl hk (fun g hg => hg) (ptC (.ptr p0 0 0) _) hp (fun g hg => .inl hg)
    have hS : SH _ [_, _, _, _] z := hS
    have hK := hS.K
    refine wo_val (fun _ => rfl) rfl rfl (op_pure rfl) ?_
    refine wd_nil ?_
    refine then_n ?_
    refine wc_ret ?_
    repeat first | refine then_r ?_ | refine out_r ?_ | refine round_r ?_ | refine cut_r ?_ | refine sc_r ?_
    exact ⟨_, res_cell2 rfl rfl rfl (hS.pt 0 rfl) rfl, hK, by first
      | (have e : srtN (rawN l.length a y) = ((rawN l.length a y).2.1, (rawN l.length a y).1, (rawN l.length a y).2.2) := (by unfold srtN; rw [if_pos ⟨by omega, h61⟩])
         rw [e]; rfl)
      | (have e : srtN (rawN l.length a y) = rawN l.length a y := (by unfold srtN; rw [if_neg (by omega)])
         rw [e]; rfl)⟩
  simp only [beq_eq_false_iff_ne, ne_eq] at h33
  repeat refine wc_seq ?_
  refine wc_region ?_
  refine w_val rfl rfl (op_pure rfl) ?_
  refine w_val rfl rfl (op_pure rfl) ?_
  refine w_nil ?_
  refine then_n ?_
  refine wc_condT rfl (fun h45 => ?_) (fun h45 => ?_)
  · simp only [beq_iff_eq] at h45
    refine wc_region ?_
    refine w_val rfl rfl (op_pure rfl) ?_
    refine w_val rfl rfl (op_pure rfl) ?_
    refine w_val rfl rfl (op_add rfl rfl (by unfold In64; omega)) ?_
    refine w_val rfl rfl (op_pure rfl) ?_
    refine w_val rfl rfl (op_add rfl rfl (by unfold In64; omega)) ?_
    refine w_call rfl rfl (op_call rfl rfl rfl rfl) (put_ok (0, 0, 0) (by decide) hS) ?_
    rintro _ z ⟨rfl, hS⟩
    rw [show putA2 (0, 0, 0) _ _ = rawN l.length a y by unfold rawN; rw [if_neg h26, if_neg h33, if_pos h45, show (l.length : Int) - 1 + 1 = l.length by omega]] at hS
    have hK := hS.K
    have hcnt := rawN_le l.length a y
    refine w_nil ?_
    refine out_n ?_
    refine then_n ?_
    repeat refine wc_seq ?_
    refine wc_region ?_
    refine w_val rfl rfl (op_loadC 2 hS rfl rfl rfl (Nat.le_of_ble_eq_true rfl) rfl) ?_
    refine w_val rfl rfl (op_pure rfl) ?_
    refine w_val rfl rfl (op_pure rfl) ?_
    refine w_split (i := 55) rfl (fun h55 => ?_) (fun h55 => ?_)
    · simp only [beq_iff_eq] at h55
      refine w_val rfl rfl (op_idxArr (k := 0) rfl rfl rfl rfl rfl rfl (by decide)) ?_
      refine w_val rfl rfl (op_loadC 1 hS rfl rfl rfl (Nat.le_of_ble_eq_true rfl) rfl) ?_
      refine w_val rfl rfl (op_idxArr (k := 1) rfl rfl rfl rfl rfl rfl (by decide)) ?_
      refine w_val rfl rfl (op_loadC 1 hS rfl rfl rfl (Nat.le_of_ble_eq_true rfl) rfl) ?_
      refine w_val rfl rfl (op_pure rfl) ?_
      refine w_val rfl rfl (op_pure rfl) ?_
      refine w_nil ?_
      refine then_n ?_
      repeat refine wc_seq ?_
      refine wc_condT rfl (fun h61 => ?_) (fun h61 => ?_)
      · simp only [decide_eq_true_eq, gt_iff_lt] at h61
        refine wc_region ?_
        refine w_val rfl rfl (op_idxArr (k := 1) rfl rfl rfl rfl rfl rfl (by decide)) ?_
        refine w_val rfl rfl (op_loadC 1 hS rfl rfl rfl (Nat.le_of_ble_eq_true rfl) rfl) ?_
        refine w_val rfl rfl (op_idxArr (k := 0) rfl rfl rfl rfl rfl rfl (by decide)) ?_
        refine w_val rfl rfl (op_loadC 1 hS rfl rfl rfl (Nat.le_of_ble_eq_true rfl) rfl) ?_
        refine w_val rfl rfl (op_idxArr (k := 0) rfl rfl rfl rfl rfl rfl (by decide)) ?_
        refine ws_storeL 1 hS rfl rfl rfl rfl rfl rfl (by rfl) (Nat.le_of_ble_eq_true rfl) ?_
        rintro z hS
        have hS : SH _ [_, _, _, _] z := hS
        have hK := hS.K
        refine w_val rfl rfl (op_idxArr (k := 1) rfl rfl rfl rfl rfl rfl (by decide)) ?_
        refine ws_storeL 1 hS rfl rfl rfl rfl rfl rfl (by rfl) (Nat.le_of_ble_eq_true rfl) ?_
        rintro z hS
        have hS : SH _ [_, _, _, _] z := hS
        have hK := hS.K
        refine w_nil ?_
        refine then_n ?_
        repeat refine wc_seq ?_
        have hR := Keep.refl hS.ok
        have hx1 : ∀ g ∈ [p1], g ∉ [p0] := fun g hg h => hS.dis 1 0 _ _ (by decide) rfl rfl g hg h
        have hx2 : ∀ g ∈ [p2], g ∉ [p0] := fun g hg h => hS.dis 2 0 _ _ (by decide) rfl rfl g hg h
        refine wc_draw (Old z [p0]) (by kernel_rfl) rfl ?_
        refine wo_load hR rfl rfl ((hS.pt 1 rfl).at (Nat.le_of_ble_eq_true rfl)) rfl hx1 rfl rfl ?_
        refine wo_load hR rfl rfl ((hS.pt 2 rfl).at (Nat.le_of_ble_eq_true rfl)) rfl hx2 rfl rfl ?_
        refine wo_store_all (p := .ptr p0 0 0) hR (fun g hg => hg) rfl rfl rfl rfl rfl (by rfl) rfl (hS.pt 0 rfl) (by simp [AV.gs]) ?_
        rintro z hp hk hc
        have hS := hS.upd 0 rfl hk (fun g hg => hg) (ptC (.ptr p0 0 0) _) hp (fun g hg => .inl hg)
        have hS : SH _ [_, _, _, _] z := hS
        have hK := hS.K
        refine wo_val (fun _ => rfl) rfl rfl (op_pure rfl) ?_
        refine wd_nil ?_
        refine then_n ?_
        refine wc_ret ?_
        repeat first | refine then_r ?_ | refine out_r ?_ | refine round_r ?_ | refine cut_r ?_ | refine sc_r ?_
        exact ⟨_, res_cell2 rfl rfl rfl (hS.pt 0 rfl) rfl, hK, by first
          | (have e : srtN (rawN l.length a y) = ((rawN l.length a y).2.1, (rawN l.length a y).1, (rawN l.length a y).2.2) := (by unfold srtN; rw [if_pos ⟨by omega, h61⟩])
             rw [e]; rfl)
          | (have e : srtN (rawN l.length a y) = rawN l.length a y := (by unfold srtN; rw [if_neg (by omega)])
             rw [e]; rfl)⟩
      simp only [decide_eq_false_iff_not, gt_iff_lt] at h61
      refine wc_skip ?_
      refine then_n ?_
      repeat refine wc_seq ?_
      have hR := Keep.refl hS.ok
      have hx1 : ∀ g ∈ [p1], g ∉ [p0] := fun g hg h => hS.dis 1 0 _ _ (by decide) rfl rfl g hg h
      have hx2 : ∀ g ∈ [p2], g ∉ [p0] := fun g hg h => hS.dis 2 0 _ _ (by decide) rfl rfl g hg h
      refine wc_draw (Old z [p0]) (by kernel_rfl) rfl ?_
      refine wo_load hR rfl rfl ((hS.pt 1 rfl).at (Nat.le_of_ble_eq_true rfl)) rfl hx1 rfl rfl ?_
      refine wo_load hR rfl rfl ((hS.pt 2 rfl).at (Nat.le_of_ble_eq_true rfl)) rfl hx2 rfl rfl ?_
      refine wo_store_all (p := .ptr p0 0 0) hR (fun g hg => hg) rfl rfl rfl rfl rfl (by rfl) rfl (hS.pt 0 rfl) (by simp [AV.gs]) ?_
      rintro z hp hk hc
      have hS := hS.upd 0 rfl hk (fun g hg => hg) (ptC (.ptr p0 0 0) _) hp (fun g hg => .inl hg)
      have hS : SH _ [_, _, _, _] z := hS
      have hK := hS.K
      refine wo_val (fun _ => rfl) rfl rfl (op_pure rfl) ?_
      refine wd_nil ?_
      refine then_n ?_
      refine wc_ret ?_
      repeat first | refine then_r ?_ | refine out_r ?_ | refine round_r ?_ | refine cut_r ?_ | refine sc_r ?_
      exact ⟨_, res_cell2 rfl rfl rfl (hS.pt 0 rfl) rfl, hK, by first
        | (have e : srtN (rawN l.length a y) = ((rawN l.length a y).2.1, (rawN l.length a y).1, (rawN l.length a y).2.2) := (by unfold srtN; rw [if_pos ⟨by omega, h61⟩])
           rw [e]; rfl)
        | (have e : srtN (rawN l.length a y) = rawN l.length a y := (by unfold srtN; rw [if_neg (by omega)])
           rw [e]; rfl)⟩
    simp only [beq_eq_false_iff_ne, ne_eq] at h55
    refine w_off rfl rfl ?_
    refine w_off rfl rfl ?_
    refine w_off rfl rfl ?_
    refine w_off rfl rfl ?_
    refine w_off rfl rfl ?_
    refine w_val rfl rfl (op_pure rfl) ?_
    refine w_nil ?_
    refine then_n ?_
    repeat refine wc_seq ?_
    refine wc_cond_f rfl ?_
    refine wc_skip ?_
    refine then_n ?_
    repeat refine wc_seq ?_
    have hR := Keep.refl hS.ok
    have hx1 : ∀ g ∈ [p1], g ∉ [p0] := fun g hg h => hS.dis 1 0 _ _ (by decide) rfl rfl g hg h
    have hx2 : ∀ g ∈ [p2], g ∉ [p0] := fun g hg h => hS.dis 2 0 _ _ (by decide) rfl rfl g hg h
    refine wc_draw (Old z [p0]) (by kernel_rfl) rfl ?_
    refine wo_load hR rfl rfl ((hS.pt 1 rfl).at (Nat.le_of_ble_eq_true rfl)) rfl hx1 rfl rfl ?_
    refine wo_load hR rfl rfl ((hS.pt 2 rfl).at (Nat.le_of_ble_eq_true rfl)) rfl hx2 rfl rfl ?_
    refine wo_store_all (p := .ptr p0 0 0) hR (fun g hg => hg) rfl rfl rfl rfl rfl (by rfl) rfl (hS.pt 0 rfl) (by simp [AV.gs]) ?_
    rintro z hp hk hc
    have hS := hS.upd 0 rfl hk (fun g hg => hg) (ptC (.ptr p0 0 0) _) hp (fun g hg => .inl hg)
    have hS : SH _ [_, _, _, _] z := hS
    have hK := hS.K
    refine wo_val (fun _ => rfl) rfl rfl (op_pure rfl) ?_
    refine wd_nil ?_
    refine then_n ?_
    refine wc_ret ?_
    repeat first | refine then_r ?_ | refine out_r ?_ | refine round_r ?_ | refine cut_r ?_ | refine sc_r ?_
    exact ⟨_, res_cell2 rfl rfl rfl (hS.pt 0 rfl) rfl, hK, by first
      | (have e : srtN (rawN l.length a y) = ((rawN l.length a y).2.1, (rawN l.length a y).1, (rawN l.length a y).2.2) := (by unfold srtN; rw [if_pos ⟨by omega, h61⟩])
         rw [e]; rfl)
      | (have e : srtN (rawN l.length a y) = rawN l.length a y := (by unfold srtN; rw [if_neg (by omega)])
         rw [e]; rfl)⟩
  simp only [beq_eq_false_iff_ne, ne_eq] at h45
  refine wc_region ?_
  refine w_val rfl rfl (op_pure rfl) ?_
  refine w_val rfl rfl (op_pure rfl) ?_
  refine w_val rfl rfl (op_add rfl rfl (by unfold In64; omega)) ?_
  refine w_val rfl rfl (op_pure rfl) ?_
  refine w_call rfl rfl (op_call rfl rfl rfl rfl) (put_ok (0, 0, 0) (by decide) hS) ?_
  rintro _ z ⟨rfl, hS⟩
  rw [show putA2 (0, 0, 0) _ _ = rawN l.length a y by unfold rawN; rw [if_neg h26, if_neg h33, if_neg h45]] at hS
  have hK := hS.K
  have hcnt := rawN_le l.length a y
  refine w_nil ?_
  refine out_n ?_
  refine then_n ?_
  repeat refine wc_seq ?_
  refine wc_region ?_
  refine w_val rfl rfl (op_loadC 2 hS rfl rfl rfl (Nat.le_of_ble_eq_true rfl) rfl) ?_
  refine w_val rfl rfl (op_pure rfl) ?_
  refine w_val rfl rfl (op_pure rfl) ?_
  refine w_split (i := 55) rfl (fun h55 => ?_) (fun h55 => ?_)
  · simp only [beq_iff_eq] at h55
    refine w_val rfl rfl (op_idxArr (k := 0) rfl rfl rfl rfl rfl rfl (by decide)) ?_
    refine w_val rfl rfl (op_loadC 1 hS rfl rfl rfl (Nat.le_of_ble_eq_true rfl) rfl) ?_
    refine w_val rfl rfl (op_idxArr (k := 1) rfl rfl rfl rfl rfl rfl (by decide)) ?_
    refine w_val rfl rfl (op_loadC 1 hS rfl rfl rfl (Nat.le_of_ble_eq_true rfl) rfl) ?_
    refine w_val rfl rfl (op_pure rfl) ?_
    refine w_val rfl rfl (op_pure rfl) ?_
    refine w_nil ?_
    refine then_n ?_
    repeat refine wc_seq ?_
    refine wc_condT rfl (fun h61 => ?_) (fun h61 => ?_)
    · simp only [decide_eq_true_eq, gt_iff_lt] at h61
      refine wc_region ?_
      refine w_val rfl rfl (op_idxArr (k := 1) rfl rfl rfl rfl rfl rfl (by decide)) ?_
      refine w_val rfl rfl (op_loadC 1 hS rfl rfl rfl (Nat.le_of_ble_eq_true rfl) rfl) ?_
      refine w_val rfl rfl (op_idxArr (k := 0) rfl rfl rfl rfl rfl rfl (by decide)) ?_
      refine w_val rfl rfl (op_loadC 1 hS rfl rfl rfl (Nat.le_of_ble_eq_true rfl) rfl) ?_
      refine w_val rfl rfl (op_idxArr (k := 0) rfl rfl rfl rfl rfl rfl (by decide)) ?_
      refine ws_storeL 1 hS rfl rfl rfl rfl rfl rfl (by rfl) (Nat.le_of_ble_eq_true rfl) ?_
      rintro z hS
      have hS : SH _ [_, _, _, _] z := hS
      have hK := hS.K
      refine w_val rfl rfl (op_idxArr (k := 1) rfl rfl rfl rfl rfl rfl (by decide)) ?_
      refine ws_storeL 1 hS rfl rfl rfl rfl rfl rfl (by rfl) (Nat.le_of_ble_eq_true rfl) ?_
      rintro z hS
      have hS : SH _ [_, _, _, _] z := hS
      have hK := hS.K
      refine w_nil ?_
      refine then_n ?_
      repeat refine wc_seq ?_
      have hR := Keep.refl hS.ok
      have hx1 : ∀ g ∈ [p1], g ∉ [p0] := fun g hg h => hS.dis 1 0 _ _ (by decide) rfl rfl g hg h
      have hx2 : ∀ g ∈ [p2], g ∉ [p0] := fun g hg h => hS.dis 2 0 _ _ (by decide) rfl rfl g hg h
      refine wc_draw (Old z [p0]) (by kernel_rfl) rfl ?_
      refine wo_load hR rfl rfl ((hS.pt 1 rfl).at (Nat.le_of_ble_eq_true rfl)) rfl hx1 rfl rfl ?_
      refine wo_load hR rfl rfl ((hS.pt 2 rfl).at (Nat.le_of_ble_eq_true rfl)) rfl hx2 rfl rfl ?_
      refine wo_store_all (p := .ptr p0 0 0) hR (fun g hg => hg) rfl rfl rfl rfl rfl (by rfl) rfl (hS.pt 0 rfl) (by simp [AV.gs]) ?_
      rintro z hp hk hc
      have hS := hS.upd 0 rfl hk (fun g hg => hg) (ptC (.ptr p0 0 0) _) hp (fun g hg => .inl hg)
      have hS : SH _ [_, _, _, _] z := hS
      have hK := hS.K
      refine wo_val (fun _ => rfl) rfl rfl (op_pure rfl) ?_
      refine wd_nil ?_
      refine then_n ?_
      refine wc_ret ?_
      repeat first | refine then_r ?_ | refine out_r ?_ | refine round_r ?_ | refine cut_r ?_ | refine sc_r ?_
      exact ⟨_, res_cell2 rfl rfl rfl (hS.pt 0 rfl) rfl, hK, by first
        | (have e : srtN (rawN l.length a y) = ((rawN l.length a y).2.1, (rawN l.length a y).1, (rawN l.length a y).2.2) := (by unfold srtN; rw [if_pos ⟨by omega, h61⟩])
           rw [e]; rfl)
        | (have e : srtN (rawN l.length a y) = rawN l.length a y := (by unfold srtN; rw [if_neg (by omega)])
           rw [e]; rfl)⟩
    simp only [decide_eq_false_iff_not, gt_iff_lt] at h61
    refine wc_skip ?_
    refine then_n ?_
    repeat refine wc_seq ?_
    have hR := Keep.refl hS.ok
    have hx1 : ∀ g ∈ [p1], g ∉ [p0] := fun g hg h => hS.dis 1 0 _ _ (by decide) rfl rfl g hg h
    have hx2 : ∀ g ∈ [p2], g ∉ [p0] := fun g hg h => hS.dis 2 0 _ _ (by decide) rfl rfl g hg h
    refine wc_draw (Old z [p0]) (by kernel_rfl) rfl ?_
    refine wo_load hR rfl rfl ((hS.pt 1 rfl).at (Nat.le_of_ble_eq_true rfl)) rfl hx1 rfl rfl ?_
    refine wo_load hR rfl rfl ((hS.pt 2 rfl).at (Nat.le_of_ble_eq_true rfl)) rfl hx2 rfl rfl ?_
    refine wo_store_all (p := .ptr p0 0 0) hR (fun g hg => hg) rfl rfl rfl rfl rfl (by rfl) rfl (hS.pt 0 rfl) (by simp [AV.gs]) ?_
    rintro z hp hk hc
    have hS := hS.upd 0 rfl hk (fun g hg => hg) (ptC (.ptr p0 0 0) _) hp (fun g hg => .inl hg)
    have hS : SH _ [_, _, _, _] z := hS
    have hK := hS.K
    refine wo_val (fun _ => rfl) rfl rfl (op_pure rfl) ?_
    refine wd_nil ?_
    refine then_n ?_
    refine wc_ret ?_
    repeat first | refine then_r ?_ | refine out_r ?_ | refine round_r ?_ | refine cut_r ?_ | refine sc_r ?_
    exact ⟨_, res_cell2 rfl rfl rfl (hS.pt 0 rfl) rfl, hK, by first
      | (have e : srtN (rawN l.length a y) = ((rawN l.length a y).2.1, (rawN l.length a y).1, (rawN l.length a y).2.2) := (by unfold srtN; rw [if_pos ⟨by omega, h61⟩])
         rw [e]; rfl)
      | (have e : srtN (rawN l.length a y) = rawN l.length a y := (by unfold srtN; rw [if_neg (by omega)])
         rw [e]; rfl)⟩
  simp only [beq_eq_false_iff_ne, ne_eq] at h55
  refine w_off rfl rfl ?_
  refine w_off rfl rfl ?_
  refine w_off rfl rfl ?_
  refine w_off rfl rfl ?_
  refine w_off rfl rfl ?_
  refine w_val rfl rfl (op_pure rfl) ?_
  refine w_nil ?_
  refine then_n ?_
  repeat refine wc_seq ?_
  refine wc_cond_f rfl ?_
  refine wc_skip ?_
  refine then_n ?_
  repeat refine wc_seq ?_
  have hR := Keep.refl hS.ok
  have hx1 : ∀ g ∈ [p1], g ∉ [p0] := fun g hg h => hS.dis 1 0 _ _ (by decide) rfl rfl g hg h
  have hx2 : ∀ g ∈ [p2], g ∉ [p0] := fun g hg h => hS.dis 2 0 _ _ (by decide) rfl rfl g hg h
  refine wc_draw (Old z [p0]) (by kernel_rfl) rfl ?_
  refine wo_load hR rfl rfl ((hS.pt 1 rfl).at (Nat.le_of_ble_eq_true rfl)) rfl hx1 rfl rfl ?_
  refine wo_load hR rfl rfl ((hS.pt 2 rfl).at (Nat.le_of_ble_eq_true rfl)) rfl hx2 rfl rfl ?_
  refine wo_store_all (p := .ptr p0 0 0) hR (fun g hg => hg) rfl rfl rfl rfl rfl (by rfl) rfl (hS.pt 0 rfl) (by simp [AV.gs]) ?_
  rintro z hp hk hc
  have hS := hS.upd 0 rfl hk (fun g hg => hg) (ptC (.ptr p0 0 0) _) hp (fun g hg => .inl hg)
  have hS : SH _ [_, _, _, _] z := hS
  have hK := hS.K
  refine wo_val (fun _ => rfl) rfl rfl (op_pure rfl) ?_
  refine wd_nil ?_
  refine then_n ?_
  refine wc_ret ?_
  repeat first | refine then_r ?_ | refine out_r ?_ | refine round_r ?_ | refine cut_r ?_ | refine sc_r ?_
  exact ⟨_, res_cell2 rfl rfl rfl (hS.pt 0 rfl) rfl, hK, by first
    | (have e : srtN (rawN l.length a y) = ((rawN l.length a y).2.1, (rawN l.length a y).1, (rawN l.length a y).2.2) := (by unfold srtN; rw [if_pos ⟨by omega, h61⟩])
       rw [e]; rfl)
    | (have e : srtN (rawN l.length a y) = rawN l.length a y := (by unfold srtN; rw [if_neg (by omega)])
       rw [e]; rfl)⟩
def nextA (l : List InstrL) (a : Nat) : List Int := match l[a]? with
  | some y => nextN l.length a y
  | none => []
theorem nextA_len (l : List InstrL) (a : Nat) : (nextA l a).length ≤ 2 := by
  unfold nextA
  split
  · unfold nextN; rw [List.length_take]; simp only [List.length_cons, List.length_nil]; omega
  · simp
set_option maxRecDepth 10000 in
set_option maxHeartbeats 8000000 in
theorem next_ok {s : St} {v c1 c2 c3 c4 c5 : AV} {l : List InstrL} {a : Nat} (hok : s.Ok) (hv : Row s.h 2 v (l.map inC)) (hl : l.length ≤ 2097152) (hz : ([c1, c2, c3, c4, c5, v] : List AV).all AV.leaf = true) :
    CallS Try.prog Tt Kt 63 [.agg [c1, c2, c3, c4, c5, v], .int .i64 (a : Nat)] s (fun r s' => Keep [] s s' ∧ Row s'.h 1 r ((nextA l a).map iC) ∧ (r.gs = [] → r = .nils) ∧ ∀ g ∈ r.gs, s.ctr ≤ g) := by
  refine call_of (fn := Try.f63) (nt := 27) Try.func63 rfl rfl rfl ?_
  repeat refine wc_seq ?_
  have hS := SH.start hok
  refine wc_region ?_
  refine ws_box hS rfl rfl rfl hz ?_
  rintro p0 z hS hk
  have hS : SH _ [_] z := hS
  have hK := hS.K
  refine w_val rfl rfl (op_pure rfl) ?_
  refine w_nil ?_
  refine then_n ?_
  repeat refine wc_seq ?_
  refine wc_region ?_
  refine w_val rfl rfl (op_pure rfl) ?_
  refine w_val rfl rfl (op_int (v := .bool false) rfl rfl (by decide) (by unfold intA; rw [decide_eq_false (by omega)])) ?_
  refine w_val rfl rfl (op_pure rfl) ?_
  refine w_val rfl rfl (op_pure rfl) ?_
  refine w_val rfl rfl (op_fldP rfl rfl rfl rfl (by decide)) ?_
  refine w_val rfl rfl (op_loadC 0 hS rfl rfl rfl (Nat.le_of_ble_eq_true rfl) rfl) ?_
  refine w_val rfl rfl (op_len rfl rfl rfl rfl rfl hv.slenF) ?_
  refine w_val rfl rfl (op_pure rfl) ?_
  refine w_val rfl rfl (op_pure rfl) ?_
  refine w_nil ?_
  refine then_n ?_
  repeat refine wc_seq ?_
  refine wc_condT rfl (fun h15 => ?_) (fun h15 => ?_)
  · simp only [decide_eq_true_eq, ge_iff_le] at h15
    repeat refine wc_seq ?_
    refine wc_region ?_
    refine w_val rfl rfl (op_pure rfl) ?_
    refine w_nil ?_
    refine then_n ?_
    refine wc_ret ?_
    repeat first | refine then_r ?_ | refine out_r ?_ | refine round_r ?_ | refine cut_r ?_ | refine sc_r ?_
    have e : nextA l a = [] := by unfold nextA; rw [List.getElem?_eq_none (by omega)]
    exact ⟨_, rfl, hK, by rw [e]; exact row_nils _ _, fun _ => rfl, fun g hg => by cases hg⟩
  simp only [decide_eq_false_iff_not, ge_iff_le] at h15
  refine wc_skip ?_
  refine then_n ?_
  repeat refine wc_seq ?_
  obtain ⟨y, hy⟩ : ∃ y, l[a]? = some y := ⟨_, List.getElem?_eq_getElem (by omega)⟩
  have hvz := hv.keep0 hK
  have hcnt : (srtN (rawN l.length a y)).2.2 ≤ 2 := by rw [srtN_cnt]; exact rawN_le _ _ _
  have hnx : nextA l a = nextN l.length a y := by unfold nextA; rw [hy]
  refine wc_region ?_
  refine w_val rfl rfl (op_fldP rfl rfl rfl rfl (by decide)) ?_
  refine w_val rfl rfl (op_loadC 0 hS rfl rfl rfl (Nat.le_of_ble_eq_true rfl) rfl) ?_
  refine w_val rfl rfl (op_pure rfl) ?_
  refine w_call rfl rfl (op_call rfl rfl rfl rfl) (to_ok hK.ok hvz hl hy) ?_
  rintro _ z ⟨hk, rfl⟩
  have hS := hS.mov hk
  have hK := hS.K
  refine w_val rfl rfl (op_pure rfl) ?_
  refine w_val rfl rfl (op_pure rfl) ?_
  refine w_val rfl rfl (op_pure rfl) ?_
  refine ws_alloc hS rfl rfl rfl rfl ?_
  rintro p1 z hS hk
  have hS : SH _ [_, _] z := hS
  have hK := hS.K
  refine ws_store 1 hS rfl rfl rfl rfl rfl rfl (by rfl) (Nat.le_of_ble_eq_true rfl) ?_
  rintro z hS
  have hS : SH _ [_, _] z := hS
  have hK := hS.K
  refine w_val rfl rfl (op_pure rfl) ?_
  refine w_nil ?_
  refine then_n ?_
  repeat refine wc_seq ?_
  refine wc_region ?_
  refine w_val rfl rfl (op_pure rfl) ?_
  refine w_val rfl rfl (op_cutArr rfl rfl (natA_cast _ _) rfl rfl rfl rfl hcnt (hS.pt 1 rfl) rfl) ?_
  have hrow := arr_row (hS.pt 1 rfl) (n := 2) rfl hcnt rfl
  have hlen := nextA_len l a
  have hrow : Row z.h 1 (.slc p1 0 0 1 (srtN (rawN l.length a y)).2.2 2 true) ((nextA l a).map iC) := by
    rw [List.map_take] at hrow
    rw [hnx]; unfold nextN; rw [List.map_take]; exact hrow
  refine w_call rfl rfl (op_call rfl rfl rfl rfl) (cloneInts_ok hS.ok (by rw [List.length_map]; omega) hrow (by simp [AV.gs])) ?_
  rintro rr z ⟨hk, hr, hb, hn⟩
  have hS := hS.mov hk
  have hKc := hK.ctr
  have hK := hS.K
  refine w_call rfl rfl (op_call rfl rfl rfl rfl) (clipInts_ok hr (fun e => (hn e).elim)) ?_
  rintro _ _ ⟨rfl, rfl⟩
  refine w_val rfl rfl (op_pure rfl) ?_
  refine w_nil ?_
  refine then_n ?_
  refine wc_ret ?_
  repeat first | refine then_r ?_ | refine out_r ?_ | refine round_r ?_ | refine cut_r ?_ | refine sc_r ?_
  exact ⟨_, rfl, hK, hr.clip, (fun e => by have e' : (clipA rr).gs = [] := e; rw [clipA_gs] at e'; exact (hn e').elim), fun g hg => by have hg' : g ∈ (clipA rr).gs := hg; rw [clipA_gs] at hg'; have := hb g hg'; omega⟩
end Go.Ab
/- Which nodes are reached. -/
namespace Go.Ab
open Go.Proofs
def EdN (l : List InstrL) (a b : Nat) : Prop := ((b : Nat) : Int) ∈ nextA l a
inductive RN (l : List InstrL) (f : Nat) : Nat → Prop where
  | here : RN l f f
  | step {a b : Nat} : RN l f a → EdN l a b → RN l f b
def MkN (l : List InstrL) (f : Nat) (L : List Bool) : Prop := L.length = l.length + 1 ∧ ∀ k, Tk L k ↔ RN l f k
theorem nextA_in {l : List InstrL} {a : Nat} {b : Int} (h : b ∈ nextA l a) : 0 ≤ b ∧ b ≤ (l.length : Int) := by
  unfold nextA at h
  split at h
  · rename_i y hy
    have ha := (List.getElem?_eq_some_iff.1 hy).1
    exact nextN_in (by omega) (by omega) (by omega) h
  · cases h
theorem rep_noTk {n k : Nat} : ¬ Tk (List.replicate n false) k := fun h => by
  have := List.mem_of_getElem? h
  rw [List.mem_replicate] at this
  exact Bool.noConfusion this.2
section
variable {l : List InstrL} {f : Nat} {L : List Bool} {todo : List Nat} {a b : Nat}
structure VisI (l : List InstrL) (f : Nat) (L : List Bool) (todo : List Nat) : Prop where
  len : L.length = l.length + 1
  here : Tk L f
  sound : ∀ k, Tk L k → RN l f k
  inL : ∀ k ∈ todo, Tk L k
  clo : ∀ k, Tk L k → k ∉ todo → ∀ b, EdN l k b → Tk L b
  cnt : todo.length + cntF L ≤ l.length + 1
theorem cntF_rep' (n : Nat) : cntF (List.replicate n false) = n := by unfold cntF; rw [List.countP_replicate]; rfl
theorem VisI.start (hf : f < l.length + 1) : VisI l f ((List.replicate (l.length + 1) false).set f true) [f] := by
  have hl : f < (List.replicate (l.length + 1) false).length := by rw [List.length_replicate]; exact hf
  refine ⟨by simp, (Tk_set hl).2 (.inl rfl), fun k hk => ?_, fun k hk => ?_, fun k hk hn => ?_, ?_⟩
  · rcases (Tk_set hl).1 hk with rfl | h
    · exact .here
    · exact (rep_noTk h).elim
  · rw [List.mem_singleton.1 hk]; exact (Tk_set hl).2 (.inl rfl)
  · rcases (Tk_set hl).1 hk with rfl | h
    · exact (hn (List.mem_singleton.2 rfl)).elim
    · exact (rep_noTk h).elim
  · have hr : (List.replicate (l.length + 1) false)[f]? = some false := by rw [List.getElem?_replicate, if_pos hf]
    have := cntF_set hr
    rw [cntF_rep'] at this
    rw [List.length_singleton]; omega
theorem VisI.push (h : VisI l f L todo) (ha : a ∈ todo) (he : EdN l a b) (hb : L[b]? = some false) : VisI l f (L.set b true) (todo ++ [b]) := by
  have hbl := (List.getElem?_eq_some_iff.1 hb).1
  refine ⟨by rw [List.length_set]; exact h.len, (Tk_set hbl).2 (.inr h.here), fun k hk => ?_, fun k hk => ?_, fun k hk hn c hc => ?_, by have := cntF_set hb; have := h.cnt; rw [List.length_append, List.length_singleton]; omega⟩
  · rcases (Tk_set hbl).1 hk with rfl | hk
    · exact .step (h.sound a (h.inL a ha)) he
    · exact h.sound k hk
  · rcases List.mem_append.1 hk with hk | hk
    · exact (Tk_set hbl).2 (.inr (h.inL k hk))
    · rw [List.mem_singleton.1 hk]; exact (Tk_set hbl).2 (.inl rfl)
  · rcases (Tk_set hbl).1 hk with rfl | hk
    · exact (hn (List.mem_append.2 (.inr (List.mem_singleton.2 rfl)))).elim
    · exact (Tk_set hbl).2 (.inr (h.clo k hk (fun h' => hn (List.mem_append.2 (.inl h'))) c hc))
theorem VisI.pop {t : List Nat} (h : VisI l f L (t ++ [a])) (ha : ∀ b, EdN l a b → Tk L b) : VisI l f L t := by
  refine ⟨h.len, h.here, h.sound, fun k hk => h.inL k (List.mem_append.2 (.inl hk)), fun k hk hn c hc => ?_, by have := h.cnt; rw [List.length_append, List.length_singleton] at this; omega⟩
  by_cases e : k = a
  · subst e; exact ha c hc
  · exact h.clo k hk (fun h' => by rcases List.mem_append.1 h' with h' | h'; exact hn h'; exact e (List.mem_singleton.1 h')) c hc
theorem VisI.marks (h : VisI l f L []) : MkN l f L := by
  refine ⟨h.len, fun k => ⟨h.sound k, fun hk => ?_⟩⟩
  induction hk with
  | here => exact h.here
  | step _ e ih => exact h.clo _ ih (fun h => by cases h) _ e
structure BfsI (l : List InstrL) (f : Nat) (L : List Bool) (todo : List Nat) (k : Nat) : Prop where
  len : L.length = l.length + 1
  sound : ∀ k, Tk L k → RN l f k
  mem : ∀ c, Tk L c ↔ c ∈ todo
  here : f ∈ todo
  cnt : todo.length + cntF L = l.length + 1
  done : ∀ (j c : Nat), j < k → todo[j]? = some c → ∀ b, EdN l c b → Tk L b
theorem BfsI.start (hf : f < l.length + 1) : BfsI l f ((List.replicate (l.length + 1) false).set f true) [f] 0 := by
  have hl : f < (List.replicate (l.length + 1) false).length := by rw [List.length_replicate]; exact hf
  have hr : (List.replicate (l.length + 1) false)[f]? = some false := by rw [List.getElem?_replicate, if_pos hf]
  refine ⟨by simp, fun k hk => ?_, fun c => ?_, List.mem_singleton.2 rfl, ?_, fun j c h => by omega⟩
  · rcases (Tk_set hl).1 hk with rfl | h
    · exact .here
    · exact (rep_noTk h).elim
  · rw [Tk_set hl, List.mem_singleton]
    exact ⟨fun h => h.elim id fun h => (rep_noTk h).elim, .inl⟩
  · have := cntF_set hr
    rw [cntF_rep'] at this
    rw [List.length_singleton]; omega
theorem BfsI.add {k c : Nat} (h : BfsI l f L todo k) (hc : todo[k]? = some c) (he : EdN l c b) (hb : L[b]? = some false) : BfsI l f (L.set b true) (todo ++ [b]) k := by
  have hbl := (List.getElem?_eq_some_iff.1 hb).1
  refine ⟨by rw [List.length_set]; exact h.len, fun k hk => ?_, fun c => ?_, List.mem_append.2 (.inl h.here), ?_, fun j c' hj hc' d hd => ?_⟩
  · rcases (Tk_set hbl).1 hk with rfl | hk
    · exact .step (h.sound c ((h.mem c).2 (List.mem_of_getElem? hc))) he
    · exact h.sound k hk
  · rw [Tk_set hbl, h.mem, List.mem_append, List.mem_singleton]
    exact ⟨fun h => h.symm, fun h => h.symm⟩
  · have := cntF_set hb
    have := h.cnt
    rw [List.length_append, List.length_singleton]; omega
  · have hk := (List.getElem?_eq_some_iff.1 hc).1
    rw [List.getElem?_append_left (by omega)] at hc'
    exact (Tk_set hbl).2 (.inr (h.done j c' hj hc' d hd))
theorem BfsI.next {k c : Nat} (h : BfsI l f L todo k) (hc : todo[k]? = some c) (ha : ∀ b, EdN l c b → Tk L b) : BfsI l f L todo (k + 1) :=
  ⟨h.len, h.sound, h.mem, h.here, h.cnt, fun j c' hj hc' b hb => by
    rcases Nat.lt_succ_iff_lt_or_eq.1 hj with hj | rfl
    · exact h.done j c' hj hc' b hb
    · rw [hc] at hc'; cases hc'; exact ha b hb⟩
theorem BfsI.marks (h : BfsI l f L todo todo.length) : MkN l f L := by
  refine ⟨h.len, fun k => ⟨h.sound k, fun hk => ?_⟩⟩
  induction hk with
  | here => exact (h.mem f).2 h.here
  | step _ e ih =>
    obtain ⟨j, hj⟩ := List.getElem?_of_mem ((h.mem _).1 ih)
    exact h.done j _ (List.getElem?_eq_some_iff.1 hj).1 hj _ e
end
def tI (t : List Nat) : List Int := t.map fun k : Nat => (k : Int)
theorem tI_get {t : List Nat} {i k : Nat} (h : t[i]? = some k) : (tI t)[i]? = some (k : Int) := by unfold tI; rw [List.getElem?_map, h]; rfl
theorem tI_len (t : List Nat) : (tI t).length = t.length := List.length_map ..
theorem tI_app (t : List Nat) (a : Nat) : tI (t ++ [a]) = tI t ++ [(a : Int)] := by simp [tI]
end Go.Ab
/- graph.Reach. -/
namespace Go.Ab
open Go.Proofs
section
variable {P : Program} {T : Tab} {K : FuncId → Option Bool} {nt : Nat} {ops : Array Oper} {rest : List Oper} {m : Sy} {s s0 : St} {Q : Sy → St → Prop} {d ty : Nat} {pos : String} {af : Array Edge} {g : Option (Nat × Bool)} {L : List Chunk}
theorem ws_lit1C {tt e : TypeId} {parts : Array (Nat × Operand)} {i ie : TI} {ps : List (Nat × AV)} {c : List AV} {sz : Nat} (hS : SH s0 L s) (hg : guardY ops m g = some true) (hd : Nat.ble (d + 1) nt = true) (hT : T tt = some i) (hs : i.sh = .slice e) (he : T e = some ie) (hp : evPartsY m parts.toList = some ps)
    (hsz : ie.size = sz) (hz : ie.zero.length = ie.size) (h0 : ie.size ≠ 0) (h24 : ie.size ≤ 2 ^ 24) (hf : fillA (fun n => some (n * ie.size, ie.size)) ie.zero ps = some c) (hl : c.all AV.leaf = true) (hcl : c.length = ie.size)
    (k : ∀ v s', SH s0 (L ++ [rowC v sz [c]]) s' → v.gs ≠ [] → W P T K nt ops rest ((d, v) :: m) s' Q) : W P T K nt ops (⟨some d, .buildSlice tt 1 parts, ty, pos, af, g⟩ :: rest) m s Q := by
  subst hsz
  exact w_lit1 hg hd hT hs he hp hz h0 h24 hf hl hcl hS.ok fun v s' hv hk hc hvg => k v s' (hS.add hk _ ⟨hv, fun h => by rw [hvg] at h; cases h⟩ (row_newb hk hv hvg hc)) (by rw [hvg]; simp)
end
theorem RowCut {s0 s : St} {L : List Chunk} {v : AV} {sz n h : Nat} {α : Type} {f : α → List AV} {xs : List α} (hS : SH s0 L s) (hn : L[n]? = some (rowC v sz (xs.map f))) (hh : h ≤ xs.length) : SH s0 (L.set n (rowC (cutA v 0 h) sz ((xs.take h).map f))) s :=
  hS.as n hn _ ⟨(hS.row n hn).cutF hh, fun e => by rw [cutA_gs] at e; rw [hS.nls n hn e]; rfl⟩ fun g hg => by have hg' : g ∈ (cutA v 0 h).gs := hg; rw [cutA_gs] at hg'; exact hg'
theorem snoc_cases {β : Type} (l : List β) : l = [] ∨ ∃ t a, l = t ++ [a] := by
  rcases List.eq_nil_or_concat l with h | ⟨t, a, h⟩
  · exact .inl h
  · exact .inr ⟨t, a, by rw [h, List.concat_eq_append]⟩
theorem tI_last (t : List Nat) (a : Nat) : (tI (t ++ [a]))[(tI (t ++ [a])).length - 1]? = some (a : Int) := by
  rw [tI_len, List.length_append, List.length_singleton, Nat.add_sub_cancel]
  exact tI_get (by simp)
theorem tI_take (t : List Nat) (a : Nat) : (tI (t ++ [a])).take ((tI (t ++ [a])).length - 1) = tI t := by
  rw [tI_len, List.length_append, List.length_singleton, Nat.add_sub_cancel, tI_app]
  rw [List.take_append_of_le_length (by rw [tI_len]; exact Nat.le_refl _), List.take_of_length_le (by rw [tI_len]; exact Nat.le_refl _)]
set_option maxRecDepth 10000 in
set_option maxHeartbeats 8000000 in
theorem visitN_ok {s : St} {l : List InstrL} {gf : FuncId} {caps : List AV} (hok : s.Ok) (hl : l.length ≤ 2097152)
    (hcl : ∀ (s' : St) (k : Nat), Keep [] s s' → CallS Try.prog Tt Kt gf (.int .i64 (k : Nat) :: caps) s' (fun r s'' => Keep [] s' s'' ∧ Row s''.h 1 r ((nextA l k).map iC))) :
    CallS Try.prog Tt Kt 61 [.int .i64 ((l.length : Nat) + 1), .int .i64 0, .fn gf caps] s (fun r s' => Keep [] s s' ∧ ∃ L, MkN l 0 L ∧ Row s'.h 1 r (L.map bC) ∧ (∀ g ∈ r.gs, s.ctr ≤ g) ∧ (r.gs = [] → r = .nils)) := by
  refine call_of (fn := Try.f61) (nt := 63) Try.func61 rfl rfl rfl ?_
  repeat refine wc_seq ?_
  have hS := SH.start hok
  have hK := hS.K
  refine wc_region ?_
  refine w_val rfl rfl (op_pure rfl) ?_
  refine w_nil ?_
  refine then_n ?_
  refine wc_scope ?_
  repeat refine wc_seq ?_
  refine wc_region ?_
  refine w_val rfl rfl (op_pure rfl) ?_
  refine ws_mk (n := l.length + 1) hS rfl rfl rfl rfl rfl rfl rfl rfl rfl (by decide) rfl (by simp only [maxBytes]; omega) (by omega) ?_
  rintro sv z hS hne hk
  have hS : SH s [rowC sv 1 ((List.replicate (l.length + 1) false).map bC)] z := by rw [← rep_bC]; exact hS
  have hK := hS.K
  refine w_val rfl rfl (op_pure rfl) ?_
  refine w_nil ?_
  refine then_n ?_
  repeat refine wc_seq ?_
  refine wc_region ?_
  refine w_val rfl rfl (op_pure rfl) ?_
  refine w_val rfl rfl (op_int (v := .bool false) rfl rfl (by decide) rfl) ?_
  refine w_val rfl rfl (op_pure rfl) ?_
  refine w_val rfl rfl (op_pure rfl) ?_
  refine w_val rfl rfl (op_pure rfl) ?_
  refine w_val rfl rfl (op_int (v := .bool false) rfl rfl (by decide) (show intA .geq .i64 0 ((l.length : Nat) + 1) = some (.bool false) from congrArg (fun b => some (AV.bool b)) (decide_eq_false (by omega)))) ?_
  refine w_val rfl rfl (op_pure rfl) ?_
  refine w_nil ?_
  refine then_n ?_
  repeat refine wc_seq ?_
  refine wc_cond_f rfl ?_
  refine wc_skip ?_
  refine then_n ?_
  repeat refine wc_seq ?_
  refine wc_region ?_
  refine w_val rfl rfl (op_pure rfl) ?_
  refine w_val rfl rfl (op_pure rfl) ?_
  refine w_val rfl rfl (op_idxF rfl rfl (natA_cast _ _) rfl rfl rfl rfl (hS.row 0 rfl) (by (simp; done))) ?_
  refine ws_storeE 0 hS rfl rfl rfl rfl rfl rfl rfl (by rfl) (by (simp; done)) ?_
  rintro z hS
  have hS : SH _ [_] z := hS
  have hK := hS.K
  refine w_nil ?_
  have hS : SH s [rowC sv 1 (((List.replicate (l.length + 1) false).set 0 true).map bC)] z := by rw [List.map_set]; exact hS
  have hI := VisI.start (l := l) (f := 0) (by omega)
  generalize (List.replicate (l.length + 1) false).set 0 true = L at hS hI
  refine then_n ?_
  repeat refine wc_seq ?_
  refine wc_region ?_
  refine w_val rfl rfl (op_pure rfl) ?_
  refine ws_lit1C hS rfl rfl rfl rfl rfl rfl rfl rfl (by decide) (by decide) rfl rfl rfl ?_
  rintro tv z hS hnt
  have hS : SH s [rowC sv 1 (L.map bC), rowC tv 1 ((tI [0]).map iC)] z := hS
  have hK := hS.K
  refine w_val rfl rfl (op_pure rfl) ?_
  refine w_nil ?_
  refine then_n ?_
  repeat refine wc_seq ?_
  refine wc_label ?_
  refine then_n ?_
  repeat refine wc_seq ?_
  refine wc_block ?_
  refine wc_loop_at (fun jj m z => ∃ (L : List Bool) (todo : List Nat) (tv : AV), jj = 2 * cntF L + todo.length ∧ m = [(2, .fn gf caps), (7, sv), (8, tv)] ∧ SH s [rowC sv 1 (L.map bC), rowC tv 1 ((tI todo).map iC)] z ∧ VisI l 0 L todo) (2 * cntF L + 1)
    [(2, .fn gf caps), (7, sv), (8, tv)] (Sub.cons rfl (Sub.cons rfl (Sub.cons rfl (Sub.nil _)))) ⟨L, [0], tv, rfl, rfl, hS, hI⟩ ?_
  clear hS hI hK hnt
  rintro jj m z ⟨L, todo, tv, rfl, rfl, hS, hI⟩
  have hK := hS.K
  have hLl := hI.len
  repeat refine wc_seq ?_
  refine wc_region ?_
  refine w_val rfl rfl (op_pure rfl) ?_
  refine w_val rfl rfl (op_len rfl rfl rfl rfl rfl (hS.row 1 rfl).slenF) ?_
  refine w_val rfl rfl (op_pure rfl) ?_
  refine w_nil ?_
  refine then_n ?_
  repeat refine wc_seq ?_
  refine wc_condT rfl (fun h29 => ?_) (fun h29 => ?_)
  · simp only [decide_eq_true_eq, gt_iff_lt] at h29
    obtain rfl | ⟨t, a, rfl⟩ := snoc_cases todo
    · simp [tI] at h29
    have hlen : 0 < (tI (t ++ [a])).length := by rw [tI_len]; simp
    have hll : (tI (t ++ [a])).length = t.length + 1 := by rw [tI_len]; simp
    have htl := tI_last t a
    have hct := hI.cnt
    rw [List.length_append, List.length_singleton] at hct
    refine wc_skip ?_
    refine then_n ?_
    refine wc_block ?_
    repeat refine wc_seq ?_
    refine wc_region ?_
    refine w_val rfl rfl (op_pure rfl) ?_
    refine w_val rfl rfl (op_pure rfl) ?_
    refine w_val rfl rfl (op_len rfl rfl rfl rfl rfl (hS.row 1 rfl).slenF) ?_
    refine w_val rfl rfl (op_sub rfl rfl (by unfold In64; omega)) ?_
    refine w_val rfl rfl (op_idxF rfl rfl (natA_pred _ hlen) rfl rfl rfl rfl (hS.row 1 rfl) (by omega)) ?_
    refine w_val rfl rfl (op_load rfl rfl (Row.mk_pt (hS.row 1 rfl) htl) rfl) ?_
    refine w_val rfl rfl (op_pure rfl) ?_
    refine w_nil ?_
    refine then_n ?_
    repeat refine wc_seq ?_
    refine wc_region ?_
    refine w_val rfl rfl (op_pure rfl) ?_
    refine w_val rfl rfl (op_pure rfl) ?_
    refine w_call rfl rfl (op_call rfl rfl rfl rfl) (hcl _ a hK) ?_
    rintro rv z ⟨hk, hr⟩
    have hS := hS.mov hk
    have hK := hS.K
    have hnl := nextA_len l a
    refine w_val rfl rfl (op_len rfl rfl rfl rfl rfl hr.slenF) ?_
    refine w_val rfl rfl (op_pure rfl) ?_
    refine w_nil ?_
    refine then_n ?_
    repeat refine wc_seq ?_
    refine wc_block ?_
    refine wc_loop_at (fun jj m z' => ∃ q : Nat, jj = (nextA l a).length - q ∧ q ≤ (nextA l a).length ∧ m = [(2, .fn gf caps), (7, sv), (8, tv), (38, rv), (39, .int .i64 ((nextA l a).length : Nat)), (40, .int .i64 (q : Nat))] ∧ z = z' ∧ ∀ (i b : Nat), i < q → (nextA l a)[i]? = some (b : Int) → Tk L b) (nextA l a).length
      [(2, .fn gf caps), (7, sv), (8, tv), (38, rv), (39, .int .i64 ((nextA l a).length : Nat)), (40, .int .i64 ((0 : Nat) : Int))] (Sub.cons rfl (Sub.cons rfl (Sub.cons rfl (Sub.cons rfl (Sub.cons rfl (Sub.cons rfl (Sub.nil _))))))) ⟨0, by simp, by simp, rfl, rfl, fun i b h => by omega⟩ ?_
    rintro j1 m1 _ ⟨q, rfl, hq, rfl, rfl, hT⟩
    repeat refine wc_seq ?_
    refine wc_region ?_
    refine w_val rfl rfl (op_pure rfl) ?_
    refine w_nil ?_
    refine then_n ?_
    repeat refine wc_seq ?_
    refine wc_condT rfl (fun h41 => ?_) (fun h41 => ?_)
    · simp only [decide_eq_true_eq] at h41
      refine wc_skip ?_
      refine then_n ?_
      repeat refine wc_seq ?_
      refine wc_block ?_
      repeat refine wc_seq ?_
      obtain ⟨bi, hbi⟩ : ∃ b, (nextA l a)[q]? = some b := ⟨_, List.getElem?_eq_getElem (by omega)⟩
      obtain ⟨hb0, hbn⟩ := nextA_in (List.mem_of_getElem? hbi)
      obtain ⟨b, rfl⟩ : ∃ b : Nat, bi = b := ⟨bi.toNat, by omega⟩
      obtain ⟨bb, hbb⟩ : ∃ x, L[b]? = some x := ⟨_, List.getElem?_eq_getElem (by omega)⟩
      refine wc_region ?_
      refine w_val rfl rfl (op_idxF rfl rfl (natA_cast _ _) rfl rfl rfl rfl hr (by omega)) ?_
      refine w_val rfl rfl (op_load rfl rfl (Row.mk_pt hr hbi) rfl) ?_
      refine w_val rfl rfl (op_pure rfl) ?_
      refine w_nil ?_
      refine then_n ?_
      repeat refine wc_seq ?_
      refine wc_region ?_
      refine w_val rfl rfl (op_pure rfl) ?_
      refine w_val rfl rfl (op_pure rfl) ?_
      refine w_val rfl rfl (op_idxF rfl rfl (natA_cast _ _) rfl rfl rfl rfl (hS.row 0 rfl) (by omega)) ?_
      refine w_val rfl rfl (op_load rfl rfl (Row.mk_pt (hS.row 0 rfl) (by assumption)) rfl) ?_
      refine w_val rfl rfl (op_pure rfl) ?_
      refine w_nil ?_
      refine then_n ?_
      refine wc_condT rfl (fun h48 => ?_) (fun h48 => ?_)
      · simp only [Bool.not_eq_true'] at h48
        subst h48
        repeat refine wc_seq ?_
        refine wc_region ?_
        refine w_val rfl rfl (op_pure rfl) ?_
        refine w_val rfl rfl (op_pure rfl) ?_
        refine w_val rfl rfl (op_idxF rfl rfl (natA_cast _ _) rfl rfl rfl rfl (hS.row 0 rfl) (by omega)) ?_
        refine ws_storeE 0 hS rfl rfl rfl rfl rfl rfl rfl (by rfl) (by (simp; omega)) ?_
        rintro z hS
        have hS : SH _ [_, _] z := hS
        have hK := hS.K
        refine w_nil ?_
        refine then_n ?_
        repeat refine wc_seq ?_
        have hcn := cntF_set hbb
        have hlc : (t ++ [a]).length = t.length + 1 := by simp
        have htb : t.length + 1 ≤ l.length + 1 + l.length + 1 ∨ True := .inr trivial
        refine wc_region ?_
        refine w_val rfl rfl (op_pure rfl) ?_
        refine w_val rfl rfl (op_pure rfl) ?_
        refine ws_lit1 hS rfl rfl rfl rfl rfl rfl rfl rfl (by decide) (by decide) rfl (by rfl) rfl ?_
        rintro lt54 z hS hk hlt54
        have hK := hS.K
        refine ws_append 1 hS rfl rfl rfl rfl rfl rfl rfl rfl rfl rfl rfl (by decide) (hlt54) (by (simp only [List.length_map, List.length_nil, List.length_cons, maxBytes]; omega)) (by (simp only [List.length_map, List.length_nil, List.length_cons, maxBytes]; omega)) ?_
        rintro at55 z hS
        have hS : SH _ [_, _] z := hS
        have hK := hS.K
        refine w_val rfl rfl (op_pure rfl) ?_
        refine w_nil ?_
        refine then_n ?_
        refine wc_exit ?_
        repeat first | refine then_x ?_ | refine round_x ?_ | refine cut_x ?_ | refine out_x' (by decide) ?_
        refine out_x ?_
        have hS : SH s [rowC sv 1 ((L.set b true).map bC), rowC at55 1 ((tI (t ++ [a] ++ [b])).map iC)] z := by rw [List.map_set, tI_app, List.map_append]; exact hS
        exact round_n _ _ (by rw [List.length_append, List.length_singleton]; omega) (Sub.cons rfl (Sub.cons rfl (Sub.cons rfl (Sub.nil _)))) ⟨L.set b true, t ++ [a] ++ [b], at55, rfl, rfl, hS, hI.push (List.mem_append.2 (.inr (List.mem_singleton.2 rfl))) (List.mem_of_getElem? hbi) hbb⟩
      simp only [Bool.not_eq_false'] at h48
      subst h48
      refine wc_skip ?_
      refine out_n ?_
      refine then_n ?_
      refine wc_region ?_
      refine w_val rfl rfl (op_add rfl rfl (by unfold In64; omega)) ?_
      refine w_val rfl rfl (op_pure rfl) ?_
      refine w_nil ?_
      exact round_n _ _ (by omega) (Sub.cons rfl (Sub.cons rfl (Sub.cons rfl (Sub.cons rfl (Sub.cons rfl (Sub.cons rfl (Sub.nil _))))))) ⟨q + 1, rfl, by omega, rfl, rfl, fun i b' hi h => (Nat.lt_succ_iff_lt_or_eq.1 hi).elim (fun h1 => hT i b' h1 h) (fun e => by
        subst e; rw [hbi] at h
        have : b = b' := by have := Option.some.inj h; omega
        rw [← this]; exact hbb)⟩
    simp only [decide_eq_false_iff_not] at h41
    obtain rfl : q = (nextA l a).length := by omega
    have hall : ∀ b, EdN l a b → Tk L b := fun b hb => by
      obtain ⟨i, hi⟩ := List.getElem?_of_mem hb
      exact hT i b (List.getElem?_eq_some_iff.1 hi).1 hi
    refine wc_exit ?_
    repeat first | refine then_x ?_ | refine round_x ?_ | refine cut_x ?_ | refine out_x' (by decide) ?_
    refine out_x ?_
    refine then_n ?_
    refine wc_region ?_
    refine w_val rfl rfl (op_pure rfl) ?_
    refine w_val rfl rfl (op_pure rfl) ?_
    refine w_val rfl rfl (op_len rfl rfl rfl rfl rfl (hS.row 1 rfl).slenF) ?_
    refine w_val rfl rfl (op_sub rfl rfl (by unfold In64; omega)) ?_
    refine w_val rfl rfl (op_cut (l := none) (h := some ((tI (t ++ [a])).length - 1)) (l' := 0) (h' := (tI (t ++ [a])).length - 1) rfl rfl (optY_some rfl (natA_pred _ hlen)) rfl rfl rfl rfl (hS.row 1 rfl) rfl rfl (Nat.zero_le _) (by rw [List.length_map]; omega)) ?_
    have hS : SH s [rowC sv 1 (L.map bC), rowC (cutA tv 0 ((tI (t ++ [a])).length - 1)) 1 ((tI t).map iC)] z := by
      have := RowCut hS (n := 1) rfl (h := (tI (t ++ [a])).length - 1) (by omega)
      rw [tI_take] at this
      exact this
    have hK := hS.K
    refine w_val rfl rfl (op_pure rfl) ?_
    refine w_nil ?_
    refine out_n ?_
    exact round_n _ _ (by rw [List.length_append, List.length_singleton]; omega) (Sub.cons rfl (Sub.cons rfl (Sub.cons rfl (Sub.nil _)))) ⟨L, t, _, rfl, rfl, hS, hI.pop hall⟩
  simp only [decide_eq_false_iff_not, gt_iff_lt] at h29
  obtain rfl : todo = [] := List.eq_nil_of_length_eq_zero (by have := tI_len todo; omega)
  have hM := hI.marks
  refine wc_exit ?_
  repeat first | refine then_x ?_ | refine round_x ?_ | refine cut_x ?_ | refine out_x' (by decide) ?_
  refine out_x ?_
  refine then_n ?_
  repeat refine wc_seq ?_
  refine wc_region ?_
  refine w_val rfl rfl (op_pure rfl) ?_
  refine w_val rfl rfl (op_pure rfl) ?_
  refine w_nil ?_
  refine then_n ?_
  refine wc_ret ?_
  repeat first | refine then_r ?_ | refine out_r ?_ | refine round_r ?_ | refine cut_r ?_ | refine sc_r ?_
  exact ⟨_, rfl, hK, L, hM, hS.row 0 rfl, fun g hg => (hS.bd 0 rfl g hg).1, hS.nls 0 rfl⟩
set_option maxRecDepth 10000 in
set_option maxHeartbeats 8000000 in
theorem reach1_ok {s : St} {p v c1 c2 c3 c4 c5 : AV} {l : List InstrL} {a : Nat} (hok : s.Ok) (hv : Row s.h 2 v (l.map inC)) (hl : l.length ≤ 2097152) (hz : ([c1, c2, c3, c4, c5, v] : List AV).all AV.leaf = true) (hp : Pt s.h p [c1, c2, c3, c4, c5, v]) :
    CallS Try.prog Tt Kt 62 [.int .i64 (a : Nat), p] s (fun r s' => Keep [] s s' ∧ Row s'.h 1 r ((nextA l a).map iC)) := by
  refine call_of (fn := Try.f62) (nt := 7) Try.func62 rfl rfl rfl ?_
  repeat refine wc_seq ?_
  refine wc_region ?_
  refine w_val rfl rfl (op_pure rfl) ?_
  refine w_nil ?_
  refine then_n ?_
  repeat refine wc_seq ?_
  refine wc_region ?_
  refine w_val rfl rfl (op_load rfl rfl (by assumption) rfl) ?_
  refine w_val rfl rfl (op_pure rfl) ?_
  refine w_call rfl rfl (op_call rfl rfl rfl rfl) (next_ok hok hv hl hz) ?_
  rintro _ z ⟨hk, hr, -, -⟩
  refine w_val rfl rfl (op_pure rfl) ?_
  refine w_nil ?_
  refine then_n ?_
  refine wc_ret ?_
  repeat first | refine then_r ?_ | refine out_r ?_ | refine round_r ?_ | refine cut_r ?_ | refine sc_r ?_
  exact ⟨_, rfl, hk, hr⟩
set_option maxRecDepth 10000 in
set_option maxHeartbeats 8000000 in
theorem reach_ok {s : St} {v c1 c2 c3 c4 c5 : AV} {l : List InstrL} (hok : s.Ok) (hv : Row s.h 2 v (l.map inC)) (hl : l.length ≤ 2097152) (hz : ([c1, c2, c3, c4, c5, v] : List AV).all AV.leaf = true) :
    CallS Try.prog Tt Kt 26 [.agg [c1, c2, c3, c4, c5, v], .int .i64 0] s (fun r s' => Keep [] s s' ∧ ∃ L, MkN l 0 L ∧ Row s'.h 1 r (L.map bC) ∧ (∀ g ∈ r.gs, s.ctr ≤ g) ∧ (r.gs = [] → r = .nils)) := by
  refine call_of (fn := Try.f26) (nt := 12) Try.func26 rfl rfl rfl ?_
  repeat refine wc_seq ?_
  have hS := SH.start hok
  refine wc_region ?_
  refine ws_box hS rfl rfl rfl hz ?_
  rintro p0 z hS hk
  have hS : SH _ [_] z := hS
  have hK := hS.K
  refine w_val rfl rfl (op_pure rfl) ?_
  refine w_nil ?_
  refine then_n ?_
  repeat refine wc_seq ?_
  refine wc_region ?_
  refine w_val rfl rfl (op_fldP rfl rfl rfl rfl (by decide)) ?_
  refine w_val rfl rfl (op_loadC 0 hS rfl rfl rfl (Nat.le_of_ble_eq_true rfl) rfl) ?_
  refine w_val rfl rfl (op_len rfl rfl rfl rfl rfl hv.slenF) ?_
  refine w_val rfl rfl (op_add rfl rfl (by unfold In64; omega)) ?_
  refine w_val rfl rfl (op_pure rfl) ?_
  refine w_val rfl rfl (op_pure rfl) ?_
  refine w_call rfl rfl (op_call rfl rfl rfl rfl) (visitN_ok hK.ok hl (fun s' k hk => reach1_ok hk.ok ((hv.keep0 hK).keep0 hk) hl hz ((hS.pt 0 rfl).keep0 hk))) ?_
  rintro rr z ⟨hk, L, hM, hr, hb, hn⟩
  have hc := hK.ctr
  refine w_val rfl rfl (op_pure rfl) ?_
  refine w_nil ?_
  refine then_n ?_
  refine wc_ret ?_
  repeat first | refine then_r ?_ | refine out_r ?_ | refine round_r ?_ | refine cut_r ?_ | refine sc_r ?_
  exact ⟨_, rfl, hK.two hk, L, hM, hr, fun g hg => Nat.le_trans hc (hb g hg), hn⟩
end Go.Ab
/- louverref14: the nodes behind one, and what is reached. -/
namespace Go.Ab
open Go.Proofs
set_option maxRecDepth 10000 in
set_option maxHeartbeats 8000000 in
theorem next_ref_ok {s : St} {v c1 c2 c3 c4 c5 : AV} {l : List InstrL} {a : Nat} (hok : s.Ok) (hv : Row s.h 2 v (l.map inC)) (hl : l.length ≤ 2097152) (hz : ([c1, c2, c3, c4, c5, v] : List AV).all AV.leaf = true) :
    CallS Try.prog Tt Kt 113 [.agg [c1, c2, c3, c4, c5, v], .int .i64 (a : Nat)] s (fun r s' => Keep [] s s' ∧ Row s'.h 1 r ((nextA l a).map iC) ∧ ∀ g ∈ r.gs, s.ctr ≤ g) := by
  refine call_of (fn := Try.f113) (nt := 94) Try.func113 rfl rfl rfl ?_
  repeat refine wc_seq ?_
  have hS := SH.start hok
  refine wc_region ?_
  refine ws_box hS rfl rfl rfl hz ?_
  rintro p0 z hS hk
  have hS : SH _ [_] z := hS
  have hK := hS.K
  refine w_val rfl rfl (op_pure rfl) ?_
  refine w_nil ?_
  refine then_n ?_
  repeat refine wc_seq ?_
  refine wc_region ?_
  refine w_val rfl rfl (op_pure rfl) ?_
  refine w_nil ?_
  refine then_n ?_
  repeat refine wc_seq ?_
  refine wc_region ?_
  refine w_val rfl rfl (op_fldP rfl rfl rfl rfl (by decide)) ?_
  refine w_val rfl rfl (op_loadC 0 hS rfl rfl rfl (Nat.le_of_ble_eq_true rfl) rfl) ?_
  refine w_val rfl rfl (op_len rfl rfl rfl rfl rfl hv.slenF) ?_
  refine w_val rfl rfl (op_pure rfl) ?_
  refine w_nil ?_
  refine then_n ?_
  repeat refine wc_seq ?_
  refine wc_region ?_
  refine w_val rfl rfl (op_pure rfl) ?_
  refine w_val rfl rfl (op_int (v := .bool false) rfl rfl (by decide) (show intA .lss .i64 (a : Nat) 0 = some (.bool false) from congrArg (fun b => some (AV.bool b)) (decide_eq_false (by omega)))) ?_
  refine w_val rfl rfl (op_pure rfl) ?_
  refine w_val rfl rfl (op_pure rfl) ?_
  refine w_val rfl rfl (op_pure rfl) ?_
  refine w_val rfl rfl (op_pure rfl) ?_
  refine w_val rfl rfl (op_pure rfl) ?_
  refine w_nil ?_
  refine then_n ?_
  repeat refine wc_seq ?_
  refine wc_condT rfl (fun h18 => ?_) (fun h18 => ?_)
  · simp only [decide_eq_true_eq, ge_iff_le] at h18
    repeat refine wc_seq ?_
    refine wc_region ?_
    refine w_val rfl rfl (op_pure rfl) ?_
    refine w_val rfl rfl (op_pure rfl) ?_
    refine w_nil ?_
    refine then_n ?_
    refine wc_ret ?_
    repeat first | refine then_r ?_ | refine out_r ?_ | refine round_r ?_ | refine cut_r ?_ | refine sc_r ?_
    have e : nextA l a = [] := by unfold nextA; rw [List.getElem?_eq_none (by omega)]
    exact ⟨_, rfl, hK, by rw [e]; exact row_nils _ _, fun g hg => by cases hg⟩
  simp only [decide_eq_false_iff_not, ge_iff_le] at h18
  refine wc_skip ?_
  refine then_n ?_
  repeat refine wc_seq ?_
  obtain ⟨y, hy⟩ : ∃ y, l[a]? = some y := ⟨_, List.getElem?_eq_getElem (by omega)⟩
  have hvz := hv.keep0 hK
  have ha : a < l.length := by omega
  have hnx : nextA l a = nextD l.length a y := by unfold nextA; rw [hy]; exact (next_same (by omega) (by omega) (by omega) y).symm
  refine wc_region ?_
  refine w_val rfl rfl (op_pure rfl) ?_
  refine w_val rfl rfl (op_add rfl rfl (by unfold In64; omega)) ?_
  refine w_val rfl rfl (op_pure rfl) ?_
  refine w_nil ?_
  refine then_n ?_
  repeat refine wc_seq ?_
  refine wc_region ?_
  refine w_val rfl rfl (op_pure rfl) ?_
  refine w_val rfl rfl (op_add rfl rfl (by unfold In64; omega)) ?_
  refine w_val rfl rfl (op_pure rfl) ?_
  refine w_nil ?_
  refine then_n ?_
  repeat refine wc_seq ?_
  refine wc_region ?_
  refine w_val rfl rfl (op_fldP rfl rfl rfl rfl (by decide)) ?_
  refine w_val rfl rfl (op_loadC 0 hS rfl rfl rfl (Nat.le_of_ble_eq_true rfl) rfl) ?_
  refine w_val rfl rfl (op_pure rfl) ?_
  refine w_val rfl rfl (op_idxF rfl rfl (natA_cast _ _) rfl rfl rfl rfl hvz (by omega)) ?_
  refine w_val rfl rfl (op_fld rfl rfl rfl rfl (by decide) (Row.mk_pt hvz hy) (Nat.le_of_ble_eq_true rfl)) ?_
  refine w_val rfl rfl (op_load rfl rfl ((Row.mk_pt hvz hy).fld _ (Nat.le_of_ble_eq_true rfl)) rfl) ?_
  refine w_nil ?_
  refine then_n ?_
  repeat refine wc_seq ?_
  refine wc_cut (fun m z => ∃ f g : Int, ¬ y.op = 46 ∧ f = fst1 l.length a y ∧ g = sec1 l.length a y ∧ Sub [(5, .nils), (6, .int .i64 (l.length : Nat)), (7, .int .i64 f), (8, .int .i64 g)] m ∧ SH s [ptC (.ptr p0 0 0) [c1, c2, c3, c4, c5, v]] z) ?_ ?_
  · refine wc_block ?_
    repeat refine wc_seq ?_
    refine wc_region ?_
    refine w_val rfl rfl (op_pure rfl) ?_
    refine w_val rfl rfl (op_pure rfl) ?_
    refine w_nil ?_
    refine then_n ?_
    repeat refine wc_seq ?_
    refine wc_condT rfl (fun h30 => ?_) (fun h30 => ?_)
    · simp only [beq_iff_eq] at h30
      refine wc_skip ?_
      refine then_n ?_
      refine wc_cond_t rfl ?_
      repeat refine wc_seq ?_
      refine wc_region ?_
      refine w_val rfl rfl (op_pure rfl) ?_
      refine w_val rfl rfl (op_pure rfl) ?_
      refine w_nil ?_
      refine then_n ?_
      repeat refine wc_seq ?_
      refine wc_region ?_
      refine w_val rfl rfl (op_fldP rfl rfl rfl rfl (by decide)) ?_
      refine w_val rfl rfl (op_loadC 0 hS rfl rfl rfl (Nat.le_of_ble_eq_true rfl) rfl) ?_
      refine w_val rfl rfl (op_pure rfl) ?_
      refine w_val rfl rfl (op_idxF rfl rfl (natA_cast _ _) rfl rfl rfl rfl hvz (by omega)) ?_
      refine w_val rfl rfl (op_fld rfl rfl rfl rfl (by decide) (Row.mk_pt hvz hy) (Nat.le_of_ble_eq_true rfl)) ?_
      refine w_val rfl rfl (op_load rfl rfl ((Row.mk_pt hvz hy).fld _ (Nat.le_of_ble_eq_true rfl)) rfl) ?_
      refine w_val rfl rfl (op_pure rfl) ?_
      refine w_val rfl rfl (op_pure rfl) ?_
      refine w_split (i := 41) rfl (fun h41 => ?_) (fun h41 => ?_)
      · simp only [decide_eq_true_eq, ge_iff_le] at h41
        refine w_val rfl rfl (op_fldP rfl rfl rfl rfl (by decide)) ?_
        refine w_val rfl rfl (op_loadC 0 hS rfl rfl rfl (Nat.le_of_ble_eq_true rfl) rfl) ?_
        refine w_val rfl rfl (op_pure rfl) ?_
        refine w_val rfl rfl (op_idxF rfl rfl (natA_cast _ _) rfl rfl rfl rfl hvz (by omega)) ?_
        refine w_val rfl rfl (op_fld rfl rfl rfl rfl (by decide) (Row.mk_pt hvz hy) (Nat.le_of_ble_eq_true rfl)) ?_
        refine w_val rfl rfl (op_load rfl rfl ((Row.mk_pt hvz hy).fld _ (Nat.le_of_ble_eq_true rfl)) rfl) ?_
        refine w_val rfl rfl (op_pure rfl) ?_
        refine w_val rfl rfl (op_pure rfl) ?_
        refine w_val rfl rfl (op_pure rfl) ?_
        refine w_nil ?_
        refine then_n ?_
        repeat refine wc_seq ?_
        refine wc_condT rfl (fun h50 => ?_) (fun h50 => ?_)
        · simp only [decide_eq_true_eq] at h50
          refine wc_region ?_
          refine w_val rfl rfl (op_fldP rfl rfl rfl rfl (by decide)) ?_
          refine w_val rfl rfl (op_loadC 0 hS rfl rfl rfl (Nat.le_of_ble_eq_true rfl) rfl) ?_
          refine w_val rfl rfl (op_pure rfl) ?_
          refine w_val rfl rfl (op_idxF rfl rfl (natA_cast _ _) rfl rfl rfl rfl hvz (by omega)) ?_
          refine w_val rfl rfl (op_fld rfl rfl rfl rfl (by decide) (Row.mk_pt hvz hy) (Nat.le_of_ble_eq_true rfl)) ?_
          refine w_val rfl rfl (op_load rfl rfl ((Row.mk_pt hvz hy).fld _ (Nat.le_of_ble_eq_true rfl)) rfl) ?_
          refine w_val rfl rfl (op_pure rfl) ?_
          refine w_nil ?_
          refine then_n ?_
          repeat refine wc_seq ?_
          refine wc_region ?_
          refine w_val rfl rfl (op_fldP rfl rfl rfl rfl (by decide)) ?_
          refine w_val rfl rfl (op_loadC 0 hS rfl rfl rfl (Nat.le_of_ble_eq_true rfl) rfl) ?_
          refine w_val rfl rfl (op_pure rfl) ?_
          refine w_val rfl rfl (op_idxF rfl rfl (natA_cast _ _) rfl rfl rfl rfl hvz (by omega)) ?_
          refine w_val rfl rfl (op_fld rfl rfl rfl rfl (by decide) (Row.mk_pt hvz hy) (Nat.le_of_ble_eq_true rfl)) ?_
          refine w_val rfl rfl (op_load rfl rfl ((Row.mk_pt hvz hy).fld _ (Nat.le_of_ble_eq_true rfl)) rfl) ?_
          refine w_val rfl rfl (op_pure rfl) ?_
          refine w_nil ?_
          refine then_n ?_
          refine wc_condT rfl (fun h63 => ?_) (fun h63 => ?_)
          · simp only [beq_iff_eq] at h63
            refine wc_region ?_
            refine w_val rfl rfl (op_pure rfl) ?_
            refine w_val rfl rfl (op_pure rfl) ?_
            refine w_nil ?_
            refine out_n ?_
            refine cut_n ?_
            first | exact absurd (by assumption : y.op = 43) (by assumption : ¬ y.op = 43) | exact ⟨_, _, by omega, by first
              | (unfold fst1 sec1; rw [if_pos (by assumption), if_pos (.inl (by assumption)), if_pos ⟨by assumption, by assumption⟩])
              | (unfold fst1 sec1; rw [if_pos (by assumption), if_pos (.inl (by assumption)), if_neg (by omega)])
              | (unfold fst1; rw [if_neg (by assumption)]), by first
              | (unfold sec1; rw [if_pos (.inl (by assumption)), if_pos ⟨by assumption, by assumption⟩])
              | (unfold sec1; rw [if_pos (.inl (by assumption)), if_neg (by omega)])
              | (unfold sec1; rw [if_pos (.inr (by assumption)), if_pos ⟨by assumption, by assumption⟩])
              | (unfold sec1; rw [if_pos (.inr (by assumption)), if_neg (by omega)])
              | (unfold sec1; rw [if_neg (by omega)]), (Sub.cons rfl (Sub.cons rfl (Sub.cons rfl (Sub.cons rfl (Sub.nil _))))), hS⟩
          simp only [beq_eq_false_iff_ne, ne_eq] at h63
          refine wc_skip ?_
          refine out_n ?_
          refine cut_n ?_
          first | exact absurd (by assumption : y.op = 43) (by assumption : ¬ y.op = 43) | exact ⟨_, _, by omega, by first
            | (unfold fst1 sec1; rw [if_pos (by assumption), if_pos (.inl (by assumption)), if_pos ⟨by assumption, by assumption⟩])
            | (unfold fst1 sec1; rw [if_pos (by assumption), if_pos (.inl (by assumption)), if_neg (by omega)])
            | (unfold fst1; rw [if_neg (by assumption)]), by first
            | (unfold sec1; rw [if_pos (.inl (by assumption)), if_pos ⟨by assumption, by assumption⟩])
            | (unfold sec1; rw [if_pos (.inl (by assumption)), if_neg (by omega)])
            | (unfold sec1; rw [if_pos (.inr (by assumption)), if_pos ⟨by assumption, by assumption⟩])
            | (unfold sec1; rw [if_pos (.inr (by assumption)), if_neg (by omega)])
            | (unfold sec1; rw [if_neg (by omega)]), (Sub.cons rfl (Sub.cons rfl (Sub.cons rfl (Sub.cons rfl (Sub.nil _))))), hS⟩
        simp only [decide_eq_false_iff_not] at h50
        refine wc_skip ?_
        refine then_n ?_
        repeat refine wc_seq ?_
        refine wc_region ?_
        refine w_val rfl rfl (op_fldP rfl rfl rfl rfl (by decide)) ?_
        refine w_val rfl rfl (op_loadC 0 hS rfl rfl rfl (Nat.le_of_ble_eq_true rfl) rfl) ?_
        refine w_val rfl rfl (op_pure rfl) ?_
        refine w_val rfl rfl (op_idxF rfl rfl (natA_cast _ _) rfl rfl rfl rfl hvz (by omega)) ?_
        refine w_val rfl rfl (op_fld rfl rfl rfl rfl (by decide) (Row.mk_pt hvz hy) (Nat.le_of_ble_eq_true rfl)) ?_
        refine w_val rfl rfl (op_load rfl rfl ((Row.mk_pt hvz hy).fld _ (Nat.le_of_ble_eq_true rfl)) rfl) ?_
        refine w_val rfl rfl (op_pure rfl) ?_
        refine w_nil ?_
        refine then_n ?_
        refine wc_condT rfl (fun h63 => ?_) (fun h63 => ?_)
        · simp only [beq_iff_eq] at h63
          refine wc_region ?_
          refine w_val rfl rfl (op_pure rfl) ?_
          refine w_val rfl rfl (op_pure rfl) ?_
          refine w_nil ?_
          refine out_n ?_
          refine cut_n ?_
          first | exact absurd (by assumption : y.op = 43) (by assumption : ¬ y.op = 43) | exact ⟨_, _, by omega, by first
            | (unfold fst1 sec1; rw [if_pos (by assumption), if_pos (.inl (by assumption)), if_pos ⟨by assumption, by assumption⟩])
            | (unfold fst1 sec1; rw [if_pos (by assumption), if_pos (.inl (by assumption)), if_neg (by omega)])
            | (unfold fst1; rw [if_neg (by assumption)]), by first
            | (unfold sec1; rw [if_pos (.inl (by assumption)), if_pos ⟨by assumption, by assumption⟩])
            | (unfold sec1; rw [if_pos (.inl (by assumption)), if_neg (by omega)])
            | (unfold sec1; rw [if_pos (.inr (by assumption)), if_pos ⟨by assumption, by assumption⟩])
            | (unfold sec1; rw [if_pos (.inr (by assumption)), if_neg (by omega)])
            | (unfold sec1; rw [if_neg (by omega)]), (Sub.cons rfl (Sub.cons rfl (Sub.cons rfl (Sub.cons rfl (Sub.nil _))))), hS⟩
        simp only [beq_eq_false_iff_ne, ne_eq] at h63
        refine wc_skip ?_
        refine out_n ?_
        refine cut_n ?_
        first | exact absurd (by assumption : y.op = 43) (by assumption : ¬ y.op = 43) | exact ⟨_, _, by omega, by first
          | (unfold fst1 sec1; rw [if_pos (by assumption), if_pos (.inl (by assumption)), if_pos ⟨by assumption, by assumption⟩])
          | (unfold fst1 sec1; rw [if_pos (by assumption), if_pos (.inl (by assumption)), if_neg (by omega)])
          | (unfold fst1; rw [if_neg (by assumption)]), by first
          | (unfold sec1; rw [if_pos (.inl (by assumption)), if_pos ⟨by assumption, by assumption⟩])
          | (unfold sec1; rw [if_pos (.inl (by assumption)), if_neg (by omega)])
          | (unfold sec1; rw [if_pos (.inr (by assumption)), if_pos ⟨by assumption, by assumption⟩])
          | (unfold sec1; rw [if_pos (.inr (by assumption)), if_neg (by omega)])
          | (unfold sec1; rw [if_neg (by omega)]), (Sub.cons rfl (Sub.cons rfl (Sub.cons rfl (Sub.cons rfl (Sub.nil _))))), hS⟩
      simp only [decide_eq_false_iff_not, ge_iff_le] at h41
      refine w_off rfl rfl ?_
      refine w_off rfl rfl ?_
      refine w_off rfl rfl ?_
      refine w_off rfl rfl ?_
      refine w_off rfl rfl ?_
      refine w_off rfl rfl ?_
      refine w_off rfl rfl ?_
      refine w_off rfl rfl ?_
      refine w_val rfl rfl (op_pure rfl) ?_
      refine w_nil ?_
      refine then_n ?_
      repeat refine wc_seq ?_
      refine wc_cond_f rfl ?_
      refine wc_skip ?_
      refine then_n ?_
      repeat refine wc_seq ?_
      refine wc_region ?_
      refine w_val rfl rfl (op_fldP rfl rfl rfl rfl (by decide)) ?_
      refine w_val rfl rfl (op_loadC 0 hS rfl rfl rfl (Nat.le_of_ble_eq_true rfl) rfl) ?_
      refine w_val rfl rfl (op_pure rfl) ?_
      refine w_val rfl rfl (op_idxF rfl rfl (natA_cast _ _) rfl rfl rfl rfl hvz (by omega)) ?_
      refine w_val rfl rfl (op_fld rfl rfl rfl rfl (by decide) (Row.mk_pt hvz hy) (Nat.le_of_ble_eq_true rfl)) ?_
      refine w_val rfl rfl (op_load rfl rfl ((Row.mk_pt hvz hy).fld _ (Nat.le_of_ble_eq_true rfl)) rfl) ?_
      refine w_val rfl rfl (op_pure rfl) ?_
      refine w_nil ?_
      refine then_n ?_
      refine wc_condT rfl (fun h63 => ?_) (fun h63 => ?_)
      · simp only [beq_iff_eq] at h63
        refine wc_region ?_
        refine w_val rfl rfl (op_pure rfl) ?_
        refine w_val rfl rfl (op_pure rfl) ?_
        refine w_nil ?_
        refine out_n ?_
        refine cut_n ?_
        first | exact absurd (by assumption : y.op = 43) (by assumption : ¬ y.op = 43) | exact ⟨_, _, by omega, by first
          | (unfold fst1 sec1; rw [if_pos (by assumption), if_pos (.inl (by assumption)), if_pos ⟨by assumption, by assumption⟩])
          | (unfold fst1 sec1; rw [if_pos (by assumption), if_pos (.inl (by assumption)), if_neg (by omega)])
          | (unfold fst1; rw [if_neg (by assumption)]), by first
          | (unfold sec1; rw [if_pos (.inl (by assumption)), if_pos ⟨by assumption, by assumption⟩])
          | (unfold sec1; rw [if_pos (.inl (by assumption)), if_neg (by omega)])
          | (unfold sec1; rw [if_pos (.inr (by assumption)), if_pos ⟨by assumption, by assumption⟩])
          | (unfold sec1; rw [if_pos (.inr (by assumption)), if_neg (by omega)])
          | (unfold sec1; rw [if_neg (by omega)]), (Sub.cons rfl (Sub.cons rfl (Sub.cons rfl (Sub.cons rfl (Sub.nil _))))), hS⟩
      simp only [beq_eq_false_iff_ne, ne_eq] at h63
      refine wc_skip ?_
      refine out_n ?_
      refine cut_n ?_
      first | exact absurd (by assumption : y.op = 43) (by assumption : ¬ y.op = 43) | exact ⟨_, _, by omega, by first
        | (unfold fst1 sec1; rw [if_pos (by assumption), if_pos (.inl (by assumption)), if_pos ⟨by assumption, by assumption⟩])
        | (unfold fst1 sec1; rw [if_pos (by assumption), if_pos (.inl (by assumption)), if_neg (by omega)])
        | (unfold fst1; rw [if_neg (by assumption)]), by first
        | (unfold sec1; rw [if_pos (.inl (by assumption)), if_pos ⟨by assumption, by assumption⟩])
        | (unfold sec1; rw [if_pos (.inl (by assumption)), if_neg (by omega)])
        | (unfold sec1; rw [if_pos (.inr (by assumption)), if_pos ⟨by assumption, by assumption⟩])
        | (unfold sec1; rw [if_pos (.inr (by assumption)), if_neg (by omega)])
        | (unfold sec1; rw [if_neg (by omega)]), (Sub.cons rfl (Sub.cons rfl (Sub.cons rfl (Sub.cons rfl (Sub.nil _))))), hS⟩
    simp only [beq_eq_false_iff_ne, ne_eq] at h30
    refine wc_region ?_
    refine w_val rfl rfl (op_pure rfl) ?_
    refine w_val rfl rfl (op_pure rfl) ?_
    refine w_nil ?_
    refine then_n ?_
    refine wc_condT rfl (fun h30 => ?_) (fun h30 => ?_)
    · simp only [beq_iff_eq] at h30
      repeat refine wc_seq ?_
      refine wc_region ?_
      refine w_val rfl rfl (op_pure rfl) ?_
      refine w_val rfl rfl (op_pure rfl) ?_
      refine w_nil ?_
      refine then_n ?_
      repeat refine wc_seq ?_
      refine wc_region ?_
      refine w_val rfl rfl (op_fldP rfl rfl rfl rfl (by decide)) ?_
      refine w_val rfl rfl (op_loadC 0 hS rfl rfl rfl (Nat.le_of_ble_eq_true rfl) rfl) ?_
      refine w_val rfl rfl (op_pure rfl) ?_
      refine w_val rfl rfl (op_idxF rfl rfl (natA_cast _ _) rfl rfl rfl rfl hvz (by omega)) ?_
      refine w_val rfl rfl (op_fld rfl rfl rfl rfl (by decide) (Row.mk_pt hvz hy) (Nat.le_of_ble_eq_true rfl)) ?_
      refine w_val rfl rfl (op_load rfl rfl ((Row.mk_pt hvz hy).fld _ (Nat.le_of_ble_eq_true rfl)) rfl) ?_
      refine w_val rfl rfl (op_pure rfl) ?_
      refine w_val rfl rfl (op_pure rfl) ?_
      refine w_split (i := 41) rfl (fun h41 => ?_) (fun h41 => ?_)
      · simp only [decide_eq_true_eq, ge_iff_le] at h41
        refine w_val rfl rfl (op_fldP rfl rfl rfl rfl (by decide)) ?_
        refine w_val rfl rfl (op_loadC 0 hS rfl rfl rfl (Nat.le_of_ble_eq_true rfl) rfl) ?_
        refine w_val rfl rfl (op_pure rfl) ?_
        refine w_val rfl rfl (op_idxF rfl rfl (natA_cast _ _) rfl rfl rfl rfl hvz (by omega)) ?_
        refine w_val rfl rfl (op_fld rfl rfl rfl rfl (by decide) (Row.mk_pt hvz hy) (Nat.le_of_ble_eq_true rfl)) ?_
        refine w_val rfl rfl (op_load rfl rfl ((Row.mk_pt hvz hy).fld _ (Nat.le_of_ble_eq_true rfl)) rfl) ?_
        refine w_val rfl rfl (op_pure rfl) ?_
        refine w_val rfl rfl (op_pure rfl) ?_
        refine w_val rfl rfl (op_pure rfl) ?_
        refine w_nil ?_
        refine then_n ?_
        repeat refine wc_seq ?_
        refine wc_condT rfl (fun h50 => ?_) (fun h50 => ?_)
        · simp only [decide_eq_true_eq] at h50
          refine wc_region ?_
          refine w_val rfl rfl (op_fldP rfl rfl rfl rfl (by decide)) ?_
          refine w_val rfl rfl (op_loadC 0 hS rfl rfl rfl (Nat.le_of_ble_eq_true rfl) rfl) ?_
          refine w_val rfl rfl (op_pure rfl) ?_
          refine w_val rfl rfl (op_idxF rfl rfl (natA_cast _ _) rfl rfl rfl rfl hvz (by omega)) ?_
          refine w_val rfl rfl (op_fld rfl rfl rfl rfl (by decide) (Row.mk_pt hvz hy) (Nat.le_of_ble_eq_true rfl)) ?_
          refine w_val rfl rfl (op_load rfl rfl ((Row.mk_pt hvz hy).fld _ (Nat.le_of_ble_eq_true rfl)) rfl) ?_
          refine w_val rfl rfl (op_pure rfl) ?_
          refine w_nil ?_
          refine then_n ?_
          repeat refine wc_seq ?_
          refine wc_region ?_
          refine w_val rfl rfl (op_fldP rfl rfl rfl rfl (by decide)) ?_
          refine w_val rfl rfl (op_loadC 0 hS rfl rfl rfl (Nat.le_of_ble_eq_true rfl) rfl) ?_
          refine w_val rfl rfl (op_pure rfl) ?_
          refine w_val rfl rfl (op_idxF rfl rfl (natA_cast _ _) rfl rfl rfl rfl hvz (by omega)) ?_
          refine w_val rfl rfl (op_fld rfl rfl rfl rfl (by decide) (Row.mk_pt hvz hy) (Nat.le_of_ble_eq_true rfl)) ?_
          refine w_val rfl rfl (op_load rfl rfl ((Row.mk_pt hvz hy).fld _ (Nat.le_of_ble_eq_true rfl)) rfl) ?_
          refine w_val rfl rfl (op_pure rfl) ?_
          refine w_nil ?_
          refine then_n ?_
          refine wc_condT rfl (fun h63 => ?_) (fun h63 => ?_)
          · simp only [beq_iff_eq] at h63
            refine wc_region ?_
            refine w_val rfl rfl (op_pure rfl) ?_
            refine w_val rfl rfl (op_pure rfl) ?_
            refine w_nil ?_
            refine out_n ?_
            refine cut_n ?_
            first | exact absurd (by assumption : y.op = 43) (by assumption : ¬ y.op = 43) | exact ⟨_, _, by omega, by first
              | (unfold fst1 sec1; rw [if_pos (by assumption), if_pos (.inl (by assumption)), if_pos ⟨by assumption, by assumption⟩])
              | (unfold fst1 sec1; rw [if_pos (by assumption), if_pos (.inl (by assumption)), if_neg (by omega)])
              | (unfold fst1; rw [if_neg (by assumption)]), by first
              | (unfold sec1; rw [if_pos (.inl (by assumption)), if_pos ⟨by assumption, by assumption⟩])
              | (unfold sec1; rw [if_pos (.inl (by assumption)), if_neg (by omega)])
              | (unfold sec1; rw [if_pos (.inr (by assumption)), if_pos ⟨by assumption, by assumption⟩])
              | (unfold sec1; rw [if_pos (.inr (by assumption)), if_neg (by omega)])
              | (unfold sec1; rw [if_neg (by omega)]), (Sub.cons rfl (Sub.cons rfl (Sub.cons rfl (Sub.cons rfl (Sub.nil _))))), hS⟩
          simp only [beq_eq_false_iff_ne, ne_eq] at h63
          refine wc_skip ?_
          refine out_n ?_
          refine cut_n ?_
          first | exact absurd (by assumption : y.op = 43) (by assumption : ¬ y.op = 43) | exact ⟨_, _, by omega, by first
            | (unfold fst1 sec1; rw [if_pos (by assumption), if_pos (.inl (by assumption)), if_pos ⟨by assumption, by assumption⟩])
            | (unfold fst1 sec1; rw [if_pos (by assumption), if_pos (.inl (by assumption)), if_neg (by omega)])
            | (unfold fst1; rw [if_neg (by assumption)]), by first
            | (unfold sec1; rw [if_pos (.inl (by assumption)), if_pos ⟨by assumption, by assumption⟩])
            | (unfold sec1; rw [if_pos (.inl (by assumption)), if_neg (by omega)])
            | (unfold sec1; rw [if_pos (.inr (by assumption)), if_pos ⟨by assumption, by assumption⟩])
            | (unfold sec1; rw [if_pos (.inr (by assumption)), if_neg (by omega)])
            | (unfold sec1; rw [if_neg (by omega)]), (Sub.cons rfl (Sub.cons rfl (Sub.cons rfl (Sub.cons rfl (Sub.nil _))))), hS⟩
        simp only [decide_eq_false_iff_not] at h50
        refine wc_skip ?_
        refine then_n ?_
        repeat refine wc_seq ?_
        refine wc_region ?_
        refine w_val rfl rfl (op_fldP rfl rfl rfl rfl (by decide)) ?_
        refine w_val rfl rfl (op_loadC 0 hS rfl rfl rfl (Nat.le_of_ble_eq_true rfl) rfl) ?_
        refine w_val rfl rfl (op_pure rfl) ?_
        refine w_val rfl rfl (op_idxF rfl rfl (natA_cast _ _) rfl rfl rfl rfl hvz (by omega)) ?_
        refine w_val rfl rfl (op_fld rfl rfl rfl rfl (by decide) (Row.mk_pt hvz hy) (Nat.le_of_ble_eq_true rfl)) ?_
        refine w_val rfl rfl (op_load rfl rfl ((Row.mk_pt hvz hy).fld _ (Nat.le_of_ble_eq_true rfl)) rfl) ?_
        refine w_val rfl rfl (op_pure rfl) ?_
        refine w_nil ?_
        refine then_n ?_
        refine wc_condT rfl (fun h63 => ?_) (fun h63 => ?_)
        · simp only [beq_iff_eq] at h63
          refine wc_region ?_
          refine w_val rfl rfl (op_pure rfl) ?_
          refine w_val rfl rfl (op_pure rfl) ?_
          refine w_nil ?_
          refine out_n ?_
          refine cut_n ?_
          first | exact absurd (by assumption : y.op = 43) (by assumption : ¬ y.op = 43) | exact ⟨_, _, by omega, by first
            | (unfold fst1 sec1; rw [if_pos (by assumption), if_pos (.inl (by assumption)), if_pos ⟨by assumption, by assumption⟩])
            | (unfold fst1 sec1; rw [if_pos (by assumption), if_pos (.inl (by assumption)), if_neg (by omega)])
            | (unfold fst1; rw [if_neg (by assumption)]), by first
            | (unfold sec1; rw [if_pos (.inl (by assumption)), if_pos ⟨by assumption, by assumption⟩])
            | (unfold sec1; rw [if_pos (.inl (by assumption)), if_neg (by omega)])
            | (unfold sec1; rw [if_pos (.inr (by assumption)), if_pos ⟨by assumption, by assumption⟩])
            | (unfold sec1; rw [if_pos (.inr (by assumption)), if_neg (by omega)])
            | (unfold sec1; rw [if_neg (by omega)]), (Sub.cons rfl (Sub.cons rfl (Sub.cons rfl (Sub.cons rfl (Sub.nil _))))), hS⟩
        simp only [beq_eq_false_iff_ne, ne_eq] at h63
        refine wc_skip ?_
        refine out_n ?_
        refine cut_n ?_
        first | exact absurd (by assumption : y.op = 43) (by assumption : ¬ y.op = 43) | exact ⟨_, _, by omega, by first
          | (unfold fst1 sec1; rw [if_pos (by assumption), if_pos (.inl (by assumption)), if_pos ⟨by assumption, by assumption⟩])
          | (unfold fst1 sec1; rw [if_pos (by assumption), if_pos (.inl (by assumption)), if_neg (by omega)])
          | (unfold fst1; rw [if_neg (by assumption)]), by first
          | (unfold sec1; rw [if_pos (.inl (by assumption)), if_pos ⟨by assumption, by assumption⟩])
          | (unfold sec1; rw [if_pos (.inl (by assumption)), if_neg (by omega)])
          | (unfold sec1; rw [if_pos (.inr (by assumption)), if_pos ⟨by assumption, by assumption⟩])
          | (unfold sec1; rw [if_pos (.inr (by assumption)), if_neg (by omega)])
          | (unfold sec1; rw [if_neg (by omega)]), (Sub.cons rfl (Sub.cons rfl (Sub.cons rfl (Sub.cons rfl (Sub.nil _))))), hS⟩
      simp only [decide_eq_false_iff_not, ge_iff_le] at h41
      refine w_off rfl rfl ?_
      refine w_off rfl rfl ?_
      refine w_off rfl rfl ?_
      refine w_off rfl rfl ?_
      refine w_off rfl rfl ?_
      refine w_off rfl rfl ?_
      refine w_off rfl rfl ?_
      refine w_off rfl rfl ?_
      refine w_val rfl rfl (op_pure rfl) ?_
      refine w_nil ?_
      refine then_n ?_
      repeat refine wc_seq ?_
      refine wc_cond_f rfl ?_
      refine wc_skip ?_
      refine then_n ?_
      repeat refine wc_seq ?_
      refine wc_region ?_
      refine w_val rfl rfl (op_fldP rfl rfl rfl rfl (by decide)) ?_
      refine w_val rfl rfl (op_loadC 0 hS rfl rfl rfl (Nat.le_of_ble_eq_true rfl) rfl) ?_
      refine w_val rfl rfl (op_pure rfl) ?_
      refine w_val rfl rfl (op_idxF rfl rfl (natA_cast _ _) rfl rfl rfl rfl hvz (by omega)) ?_
      refine w_val rfl rfl (op_fld rfl rfl rfl rfl (by decide) (Row.mk_pt hvz hy) (Nat.le_of_ble_eq_true rfl)) ?_
      refine w_val rfl rfl (op_load rfl rfl ((Row.mk_pt hvz hy).fld _ (Nat.le_of_ble_eq_true rfl)) rfl) ?_
      refine w_val rfl rfl (op_pure rfl) ?_
      refine w_nil ?_
      refine then_n ?_
      refine wc_condT rfl (fun h63 => ?_) (fun h63 => ?_)
      · simp only [beq_iff_eq] at h63
        refine wc_region ?_
        refine w_val rfl rfl (op_pure rfl) ?_
        refine w_val rfl rfl (op_pure rfl) ?_
        refine w_nil ?_
        refine out_n ?_
        refine cut_n ?_
        first | exact absurd (by assumption : y.op = 43) (by assumption : ¬ y.op = 43) | exact ⟨_, _, by omega, by first
          | (unfold fst1 sec1; rw [if_pos (by assumption), if_pos (.inl (by assumption)), if_pos ⟨by assumption, by assumption⟩])
          | (unfold fst1 sec1; rw [if_pos (by assumption), if_pos (.inl (by assumption)), if_neg (by omega)])
          | (unfold fst1; rw [if_neg (by assumption)]), by first
          | (unfold sec1; rw [if_pos (.inl (by assumption)), if_pos ⟨by assumption, by assumption⟩])
          | (unfold sec1; rw [if_pos (.inl (by assumption)), if_neg (by omega)])
          | (unfold sec1; rw [if_pos (.inr (by assumption)), if_pos ⟨by assumption, by assumption⟩])
          | (unfold sec1; rw [if_pos (.inr (by assumption)), if_neg (by omega)])
          | (unfold sec1; rw [if_neg (by omega)]), (Sub.cons rfl (Sub.cons rfl (Sub.cons rfl (Sub.cons rfl (Sub.nil _))))), hS⟩
      simp only [beq_eq_false_iff_ne, ne_eq] at h63
      refine wc_skip ?_
      refine out_n ?_
      refine cut_n ?_
      first | exact absurd (by assumption : y.op = 43) (by assumption : ¬ y.op = 43) | exact ⟨_, _, by omega, by first
        | (unfold fst1 sec1; rw [if_pos (by assumption), if_pos (.inl (by assumption)), if_pos ⟨by assumption, by assumption⟩])
        | (unfold fst1 sec1; rw [if_pos (by assumption), if_pos (.inl (by assumption)), if_neg (by omega)])
        | (unfold fst1; rw [if_neg (by assumption)]), by first
        | (unfold sec1; rw [if_pos (.inl (by assumption)), if_pos ⟨by assumption, by assumption⟩])
        | (unfold sec1; rw [if_pos (.inl (by assumption)), if_neg (by omega)])
        | (unfold sec1; rw [if_pos (.inr (by assumption)), if_pos ⟨by assumption, by assumption⟩])
        | (unfold sec1; rw [if_pos (.inr (by assumption)), if_neg (by omega)])
        | (unfold sec1; rw [if_neg (by omega)]), (Sub.cons rfl (Sub.cons rfl (Sub.cons rfl (Sub.cons rfl (Sub.nil _))))), hS⟩
    simp only [beq_eq_false_iff_ne, ne_eq] at h30
    repeat refine wc_seq ?_
    refine wc_region ?_
    refine w_val rfl rfl (op_pure rfl) ?_
    refine w_val rfl rfl (op_pure rfl) ?_
    refine w_nil ?_
    refine then_n ?_
    refine wc_condT rfl (fun h65 => ?_) (fun h65 => ?_)
    · simp only [beq_iff_eq] at h65
      repeat refine wc_seq ?_
      refine wc_region ?_
      refine w_val rfl rfl (op_pure rfl) ?_
      refine ws_lit1C (sz := 1) hS rfl rfl rfl rfl rfl rfl rfl rfl (by decide) (by decide) rfl rfl rfl ?_
      rintro lt68 z hS hnl68
      have hK := hS.K
      refine w_val rfl rfl (op_pure rfl) ?_
      refine w_nil ?_
      refine then_n ?_
      refine wc_ret ?_
      repeat first | refine then_r ?_ | refine out_r ?_ | refine round_r ?_ | refine cut_r ?_ | refine sc_r ?_
      have e : nextA l a = [(l.length : Int)] := by rw [hnx]; unfold nextD; rw [if_pos (by assumption)]
      exact ⟨_, rfl, hK, by rw [e]; exact hS.row 1 rfl, fun g hg => (hS.bd 1 rfl g hg).1⟩
    simp only [beq_eq_false_iff_ne, ne_eq] at h65
    refine wc_skip ?_
    refine out_n ?_
    refine cut_n ?_
    first | exact absurd (by assumption : y.op = 43) (by assumption : ¬ y.op = 43) | exact ⟨_, _, by omega, by first
      | (unfold fst1 sec1; rw [if_pos (by assumption), if_pos (.inl (by assumption)), if_pos ⟨by assumption, by assumption⟩])
      | (unfold fst1 sec1; rw [if_pos (by assumption), if_pos (.inl (by assumption)), if_neg (by omega)])
      | (unfold fst1; rw [if_neg (by assumption)]), by first
      | (unfold sec1; rw [if_pos (.inl (by assumption)), if_pos ⟨by assumption, by assumption⟩])
      | (unfold sec1; rw [if_pos (.inl (by assumption)), if_neg (by omega)])
      | (unfold sec1; rw [if_pos (.inr (by assumption)), if_pos ⟨by assumption, by assumption⟩])
      | (unfold sec1; rw [if_pos (.inr (by assumption)), if_neg (by omega)])
      | (unfold sec1; rw [if_neg (by omega)]), (Sub.cons rfl (Sub.cons rfl (Sub.cons rfl (Sub.cons rfl (Sub.nil _))))), hS⟩
  rintro m z ⟨f, g, h46, hf, hg, hsub, hS⟩
  have hK := hS.K
  refine then_n ?_
  repeat refine wc_seq ?_
  refine wc_sub hsub ?_
  have hS := hS.nil 1
  have hS : SH s [ptC (.ptr p0 0 0) [c1, c2, c3, c4, c5, v], rowC .nils 1 (([] : List Int).map iC)] z := hS
  refine wc_region ?_
  refine w_val rfl rfl (op_pure rfl) ?_
  refine w_val rfl rfl (op_pure rfl) ?_
  refine w_val rfl rfl (op_pure rfl) ?_
  refine w_nil ?_
  refine then_n ?_
  repeat refine wc_seq ?_
  refine wc_condT rfl (fun h71 => ?_) (fun h71 => ?_)
  · simp only [decide_eq_true_eq, gt_iff_lt] at h71
    refine wc_region ?_
    refine w_val rfl rfl (op_pure rfl) ?_
    refine w_val rfl rfl (op_pure rfl) ?_
    refine w_val rfl rfl (op_pure rfl) ?_
    refine w_val rfl rfl (op_pure rfl) ?_
    refine w_nil ?_
    refine then_n ?_
    repeat refine wc_seq ?_
    refine wc_region ?_
    refine w_val rfl rfl (op_pure rfl) ?_
    refine w_val rfl rfl (op_pure rfl) ?_
    refine w_val rfl rfl (op_pure rfl) ?_
    refine w_nil ?_
    refine then_n ?_
    repeat refine wc_seq ?_
    refine wc_condT rfl (fun h76 => ?_) (fun h76 => ?_)
    · simp only [decide_eq_true_eq] at h76
      refine wc_region ?_
      refine w_val rfl rfl (op_pure rfl) ?_
      refine w_val rfl rfl (op_pure rfl) ?_
      refine ws_lit1 hS rfl rfl rfl rfl rfl rfl rfl rfl (by decide) (by decide) rfl (by first | rfl | assumption | exact Row.leaf (by assumption)) rfl ?_
      rintro lt79 z hS hk hlt79
      have hK := hS.K
      refine ws_append 1 hS rfl rfl rfl rfl rfl rfl rfl rfl rfl rfl rfl (by decide) (hlt79) (by first | (simp only [List.length_map, List.length_nil, List.length_cons, maxBytes]; omega) | (simp [maxBytes]; omega)) (by first | (simp only [List.length_map, List.length_nil, List.length_cons, maxBytes]; omega) | (simp [maxBytes]; omega)) ?_
      rintro at80 z hS
      have hS : SH _ [_, _] z := hS
      have hK := hS.K
      refine w_val rfl rfl (op_pure rfl) ?_
      refine w_nil ?_
      refine then_n ?_
      repeat refine wc_seq ?_
      refine wc_region ?_
      refine w_val rfl rfl (op_pure rfl) ?_
      refine w_val rfl rfl (op_pure rfl) ?_
      refine w_val rfl rfl (op_pure rfl) ?_
      refine w_val rfl rfl (op_pure rfl) ?_
      refine w_split (i := 84) rfl (fun h84 => ?_) (fun h84 => ?_)
      · simp only [decide_eq_true_eq] at h84
        refine w_val rfl rfl (op_pure rfl) ?_
        refine w_val rfl rfl (op_pure rfl) ?_
        refine w_val rfl rfl (op_pure rfl) ?_
        refine w_val rfl rfl (op_pure rfl) ?_
        refine w_nil ?_
        refine then_n ?_
        repeat refine wc_seq ?_
        refine wc_condT rfl (fun h88 => ?_) (fun h88 => ?_)
        · simp only [ne_eq, bne_iff_ne] at h88
          refine wc_region ?_
          refine w_val rfl rfl (op_pure rfl) ?_
          refine w_val rfl rfl (op_pure rfl) ?_
          refine ws_lit1 hS rfl rfl rfl rfl rfl rfl rfl rfl (by decide) (by decide) rfl (by first | rfl | assumption | exact Row.leaf (by assumption)) rfl ?_
          rintro lt91 z hS hk hlt91
          have hK := hS.K
          refine ws_append 1 hS rfl rfl rfl rfl rfl rfl rfl rfl rfl rfl rfl (by decide) (hlt91) (by first | (simp only [List.length_map, List.length_nil, List.length_append, List.length_cons, maxBytes]; omega) | (simp [maxBytes]; omega)) (by first | (simp only [List.length_map, List.length_nil, List.length_append, List.length_cons, maxBytes]; omega) | (simp [maxBytes]; omega)) ?_
          rintro at92 z hS
          have hS : SH _ [_, _] z := hS
          have hK := hS.K
          refine w_val rfl rfl (op_pure rfl) ?_
          refine w_nil ?_
          refine then_n ?_
          repeat refine wc_seq ?_
          refine wc_region ?_
          refine w_val rfl rfl (op_pure rfl) ?_
          refine w_val rfl rfl (op_pure rfl) ?_
          refine w_nil ?_
          refine then_n ?_
          refine wc_ret ?_
          repeat first | refine then_r ?_ | refine out_r ?_ | refine round_r ?_ | refine cut_r ?_ | refine sc_r ?_
          refine ⟨_, rfl, hK, ?_, fun g hg => (hS.bd 1 rfl g hg).1⟩
          have e : nextA l a = _ := hnx
          unfold nextD outN at e
          rw [if_neg h46, ← hf, ← hg] at e
          have hr := hS.row 1 rfl
          first
            | (rw [if_pos (by omega)] at e; rw [e]; first
                | (rw [if_pos (by omega), if_pos ⟨by omega, by omega⟩]; exact hr)
                | (rw [if_pos (by omega), if_neg (by omega)]; exact hr)
                | (rw [if_neg (by omega), if_pos ⟨by omega, by omega⟩]; exact hr)
                | (rw [if_neg (by omega), if_neg (by omega)]; exact hr))
            | (rw [if_neg (by omega)] at e; rw [e]; first
                | (rw [if_pos (by omega), if_pos ⟨by omega, by omega⟩]; exact hr)
                | (rw [if_pos (by omega), if_neg (by omega)]; exact hr)
                | (rw [if_neg (by omega), if_pos ⟨by omega, by omega⟩]; exact hr)
                | (rw [if_neg (by omega), if_neg (by omega)]; exact hr))
        simp only [bne_eq_false_iff_eq] at h88
        refine wc_skip ?_
        refine then_n ?_
        repeat refine wc_seq ?_
        refine wc_region ?_
        refine w_val rfl rfl (op_pure rfl) ?_
        refine w_val rfl rfl (op_pure rfl) ?_
        refine w_nil ?_
        refine then_n ?_
        refine wc_ret ?_
        repeat first | refine then_r ?_ | refine out_r ?_ | refine round_r ?_ | refine cut_r ?_ | refine sc_r ?_
        refine ⟨_, rfl, hK, ?_, fun g hg => (hS.bd 1 rfl g hg).1⟩
        have e : nextA l a = _ := hnx
        unfold nextD outN at e
        rw [if_neg h46, ← hf, ← hg] at e
        have hr := hS.row 1 rfl
        first
          | (rw [if_pos (by omega)] at e; rw [e]; first
              | (rw [if_pos (by omega), if_pos ⟨by omega, by omega⟩]; exact hr)
              | (rw [if_pos (by omega), if_neg (by omega)]; exact hr)
              | (rw [if_neg (by omega), if_pos ⟨by omega, by omega⟩]; exact hr)
              | (rw [if_neg (by omega), if_neg (by omega)]; exact hr))
          | (rw [if_neg (by omega)] at e; rw [e]; first
              | (rw [if_pos (by omega), if_pos ⟨by omega, by omega⟩]; exact hr)
              | (rw [if_pos (by omega), if_neg (by omega)]; exact hr)
              | (rw [if_neg (by omega), if_pos ⟨by omega, by omega⟩]; exact hr)
              | (rw [if_neg (by omega), if_neg (by omega)]; exact hr))
      simp only [decide_eq_false_iff_not] at h84
      refine w_off rfl rfl ?_
      refine w_off rfl rfl ?_
      refine w_off rfl rfl ?_
      refine w_val rfl rfl (op_pure rfl) ?_
      refine w_nil ?_
      refine then_n ?_
      repeat refine wc_seq ?_
      refine wc_cond_f rfl ?_
      refine wc_skip ?_
      refine then_n ?_
      repeat refine wc_seq ?_
      refine wc_region ?_
      refine w_val rfl rfl (op_pure rfl) ?_
      refine w_val rfl rfl (op_pure rfl) ?_
      refine w_nil ?_
      refine then_n ?_
      refine wc_ret ?_
      repeat first | refine then_r ?_ | refine out_r ?_ | refine round_r ?_ | refine cut_r ?_ | refine sc_r ?_
      refine ⟨_, rfl, hK, ?_, fun g hg => (hS.bd 1 rfl g hg).1⟩
      have e : nextA l a = _ := hnx
      unfold nextD outN at e
      rw [if_neg h46, ← hf, ← hg] at e
      have hr := hS.row 1 rfl
      first
        | (rw [if_pos (by omega)] at e; rw [e]; first
            | (rw [if_pos (by omega), if_pos ⟨by omega, by omega⟩]; exact hr)
            | (rw [if_pos (by omega), if_neg (by omega)]; exact hr)
            | (rw [if_neg (by omega), if_pos ⟨by omega, by omega⟩]; exact hr)
            | (rw [if_neg (by omega), if_neg (by omega)]; exact hr))
        | (rw [if_neg (by omega)] at e; rw [e]; first
            | (rw [if_pos (by omega), if_pos ⟨by omega, by omega⟩]; exact hr)
            | (rw [if_pos (by omega), if_neg (by omega)]; exact hr)
            | (rw [if_neg (by omega), if_pos ⟨by omega, by omega⟩]; exact hr)
            | (rw [if_neg (by omega), if_neg (by omega)]; exact hr))
    simp only [decide_eq_false_iff_not] at h76
    refine wc_skip ?_
    refine then_n ?_
    repeat refine wc_seq ?_
    refine wc_region ?_
    refine w_val rfl rfl (op_pure rfl) ?_
    refine w_val rfl rfl (op_pure rfl) ?_
    refine w_val rfl rfl (op_pure rfl) ?_
    refine w_val rfl rfl (op_pure rfl) ?_
    refine w_split (i := 84) rfl (fun h84 => ?_) (fun h84 => ?_)
    · simp only [decide_eq_true_eq] at h84
      refine w_val rfl rfl (op_pure rfl) ?_
      refine w_val rfl rfl (op_pure rfl) ?_
      refine w_val rfl rfl (op_pure rfl) ?_
      refine w_val rfl rfl (op_pure rfl) ?_
      refine w_nil ?_
      refine then_n ?_
      repeat refine wc_seq ?_
      refine wc_condT rfl (fun h88 => ?_) (fun h88 => ?_)
      · simp only [ne_eq, bne_iff_ne] at h88
        refine wc_region ?_
        refine w_val rfl rfl (op_pure rfl) ?_
        refine w_val rfl rfl (op_pure rfl) ?_
        refine ws_lit1 hS rfl rfl rfl rfl rfl rfl rfl rfl (by decide) (by decide) rfl (by first | rfl | assumption | exact Row.leaf (by assumption)) rfl ?_
        rintro lt91 z hS hk hlt91
        have hK := hS.K
        refine ws_append 1 hS rfl rfl rfl rfl rfl rfl rfl rfl rfl rfl rfl (by decide) (hlt91) (by first | (simp only [List.length_map, List.length_nil, List.length_cons, maxBytes]; omega) | (simp [maxBytes]; omega)) (by first | (simp only [List.length_map, List.length_nil, List.length_cons, maxBytes]; omega) | (simp [maxBytes]; omega)) ?_
        rintro at92 z hS
        have hS : SH _ [_, _] z := hS
        have hK := hS.K
        refine w_val rfl rfl (op_pure rfl) ?_
        refine w_nil ?_
        refine then_n ?_
        repeat refine wc_seq ?_
        refine wc_region ?_
        refine w_val rfl rfl (op_pure rfl) ?_
        refine w_val rfl rfl (op_pure rfl) ?_
        refine w_nil ?_
        refine then_n ?_
        refine wc_ret ?_
        repeat first | refine then_r ?_ | refine out_r ?_ | refine round_r ?_ | refine cut_r ?_ | refine sc_r ?_
        refine ⟨_, rfl, hK, ?_, fun g hg => (hS.bd 1 rfl g hg).1⟩
        have e : nextA l a = _ := hnx
        unfold nextD outN at e
        rw [if_neg h46, ← hf, ← hg] at e
        have hr := hS.row 1 rfl
        first
          | (rw [if_pos (by omega)] at e; rw [e]; first
              | (rw [if_pos (by omega), if_pos ⟨by omega, by omega⟩]; exact hr)
              | (rw [if_pos (by omega), if_neg (by omega)]; exact hr)
              | (rw [if_neg (by omega), if_pos ⟨by omega, by omega⟩]; exact hr)
              | (rw [if_neg (by omega), if_neg (by omega)]; exact hr))
          | (rw [if_neg (by omega)] at e; rw [e]; first
              | (rw [if_pos (by omega), if_pos ⟨by omega, by omega⟩]; exact hr)
              | (rw [if_pos (by omega), if_neg (by omega)]; exact hr)
              | (rw [if_neg (by omega), if_pos ⟨by omega, by omega⟩]; exact hr)
              | (rw [if_neg (by omega), if_neg (by omega)]; exact hr))
      simp only [bne_eq_false_iff_eq] at h88
      refine wc_skip ?_
      refine then_n ?_
      repeat refine wc_seq ?_
      refine wc_region ?_
      refine w_val rfl rfl (op_pure rfl) ?_
      refine w_val rfl rfl (op_pure rfl) ?_
      refine w_nil ?_
      refine then_n ?_
      refine wc_ret ?_
      repeat first | refine then_r ?_ | refine out_r ?_ | refine round_r ?_ | refine cut_r ?_ | refine sc_r ?_
      refine ⟨_, rfl, hK, ?_, fun g hg => (hS.bd 1 rfl g hg).1⟩
      have e : nextA l a = _ := hnx
      unfold nextD outN at e
      rw [if_neg h46, ← hf, ← hg] at e
      have hr := hS.row 1 rfl
      first
        | (rw [if_pos (by omega)] at e; rw [e]; first
            | (rw [if_pos (by omega), if_pos ⟨by omega, by omega⟩]; exact hr)
            | (rw [if_pos (by omega), if_neg (by omega)]; exact hr)
            | (rw [if_neg (by omega), if_pos ⟨by omega, by omega⟩]; exact hr)
            | (rw [if_neg (by omega), if_neg (by omega)]; exact hr))
        | (rw [if_neg (by omega)] at e; rw [e]; first
            | (rw [if_pos (by omega), if_pos ⟨by omega, by omega⟩]; exact hr)
            | (rw [if_pos (by omega), if_neg (by omega)]; exact hr)
            | (rw [if_neg (by omega), if_pos ⟨by omega, by omega⟩]; exact hr)
            | (rw [if_neg (by omega), if_neg (by omega)]; exact hr))
    simp only [decide_eq_false_iff_not] at h84
    refine w_off rfl rfl ?_
    refine w_off rfl rfl ?_
    refine w_off rfl rfl ?_
    refine w_val rfl rfl (op_pure rfl) ?_
    refine w_nil ?_
    refine then_n ?_
    repeat refine wc_seq ?_
    refine wc_cond_f rfl ?_
    refine wc_skip ?_
    refine then_n ?_
    repeat refine wc_seq ?_
    refine wc_region ?_
    refine w_val rfl rfl (op_pure rfl) ?_
    refine w_val rfl rfl (op_pure rfl) ?_
    refine w_nil ?_
    refine then_n ?_
    refine wc_ret ?_
    repeat first | refine then_r ?_ | refine out_r ?_ | refine round_r ?_ | refine cut_r ?_ | refine sc_r ?_
    refine ⟨_, rfl, hK, ?_, fun g hg => (hS.bd 1 rfl g hg).1⟩
    have e : nextA l a = _ := hnx
    unfold nextD outN at e
    rw [if_neg h46, ← hf, ← hg] at e
    have hr := hS.row 1 rfl
    first
      | (rw [if_pos (by omega)] at e; rw [e]; first
          | (rw [if_pos (by omega), if_pos ⟨by omega, by omega⟩]; exact hr)
          | (rw [if_pos (by omega), if_neg (by omega)]; exact hr)
          | (rw [if_neg (by omega), if_pos ⟨by omega, by omega⟩]; exact hr)
          | (rw [if_neg (by omega), if_neg (by omega)]; exact hr))
      | (rw [if_neg (by omega)] at e; rw [e]; first
          | (rw [if_pos (by omega), if_pos ⟨by omega, by omega⟩]; exact hr)
          | (rw [if_pos (by omega), if_neg (by omega)]; exact hr)
          | (rw [if_neg (by omega), if_pos ⟨by omega, by omega⟩]; exact hr)
          | (rw [if_neg (by omega), if_neg (by omega)]; exact hr))
  simp only [decide_eq_false_iff_not, gt_iff_lt] at h71
  refine wc_skip ?_
  refine then_n ?_
  repeat refine wc_seq ?_
  refine wc_region ?_
  refine w_val rfl rfl (op_pure rfl) ?_
  refine w_val rfl rfl (op_pure rfl) ?_
  refine w_val rfl rfl (op_pure rfl) ?_
  refine w_nil ?_
  refine then_n ?_
  repeat refine wc_seq ?_
  refine wc_condT rfl (fun h76 => ?_) (fun h76 => ?_)
  · simp only [decide_eq_true_eq] at h76
    refine wc_region ?_
    refine w_val rfl rfl (op_pure rfl) ?_
    refine w_val rfl rfl (op_pure rfl) ?_
    refine ws_lit1 hS rfl rfl rfl rfl rfl rfl rfl rfl (by decide) (by decide) rfl (by first | rfl | assumption | exact Row.leaf (by assumption)) rfl ?_
    rintro lt79 z hS hk hlt79
    have hK := hS.K
    refine ws_append 1 hS rfl rfl rfl rfl rfl rfl rfl rfl rfl rfl rfl (by decide) (hlt79) (by first | (simp only [List.length_map, List.length_nil, List.length_cons, maxBytes]; omega) | (simp [maxBytes]; omega)) (by first | (simp only [List.length_map, List.length_nil, List.length_cons, maxBytes]; omega) | (simp [maxBytes]; omega)) ?_
    rintro at80 z hS
    have hS : SH _ [_, _] z := hS
    have hK := hS.K
    refine w_val rfl rfl (op_pure rfl) ?_
    refine w_nil ?_
    refine then_n ?_
    repeat refine wc_seq ?_
    refine wc_region ?_
    refine w_val rfl rfl (op_pure rfl) ?_
    refine w_val rfl rfl (op_pure rfl) ?_
    refine w_val rfl rfl (op_pure rfl) ?_
    refine w_val rfl rfl (op_pure rfl) ?_
    refine w_split (i := 84) rfl (fun h84 => ?_) (fun h84 => ?_)
    · simp only [decide_eq_true_eq] at h84
      refine w_val rfl rfl (op_pure rfl) ?_
      refine w_val rfl rfl (op_pure rfl) ?_
      refine w_val rfl rfl (op_pure rfl) ?_
      refine w_val rfl rfl (op_pure rfl) ?_
      refine w_nil ?_
      refine then_n ?_
      repeat refine wc_seq ?_
      refine wc_condT rfl (fun h88 => ?_) (fun h88 => ?_)
      · simp only [ne_eq, bne_iff_ne] at h88
        refine wc_region ?_
        refine w_val rfl rfl (op_pure rfl) ?_
        refine w_val rfl rfl (op_pure rfl) ?_
        refine ws_lit1 hS rfl rfl rfl rfl rfl rfl rfl rfl (by decide) (by decide) rfl (by first | rfl | assumption | exact Row.leaf (by assumption)) rfl ?_
        rintro lt91 z hS hk hlt91
        have hK := hS.K
        refine ws_append 1 hS rfl rfl rfl rfl rfl rfl rfl rfl rfl rfl rfl (by decide) (hlt91) (by first | (simp only [List.length_map, List.length_nil, List.length_append, List.length_cons, maxBytes]; omega) | (simp [maxBytes]; omega)) (by first | (simp only [List.length_map, List.length_nil, List.length_append, List.length_cons, maxBytes]; omega) | (simp [maxBytes]; omega)) ?_
        rintro at92 z hS
        have hS : SH _ [_, _] z := hS
        have hK := hS.K
        refine w_val rfl rfl (op_pure rfl) ?_
        refine w_nil ?_
        refine then_n ?_
        repeat refine wc_seq ?_
        refine wc_region ?_
        refine w_val rfl rfl (op_pure rfl) ?_
        refine w_val rfl rfl (op_pure rfl) ?_
        refine w_nil ?_
        refine then_n ?_
        refine wc_ret ?_
        repeat first | refine then_r ?_ | refine out_r ?_ | refine round_r ?_ | refine cut_r ?_ | refine sc_r ?_
        refine ⟨_, rfl, hK, ?_, fun g hg => (hS.bd 1 rfl g hg).1⟩
        have e : nextA l a = _ := hnx
        unfold nextD outN at e
        rw [if_neg h46, ← hf, ← hg] at e
        have hr := hS.row 1 rfl
        first
          | (rw [if_pos (by omega)] at e; rw [e]; first
              | (rw [if_pos (by omega), if_pos ⟨by omega, by omega⟩]; exact hr)
              | (rw [if_pos (by omega), if_neg (by omega)]; exact hr)
              | (rw [if_neg (by omega), if_pos ⟨by omega, by omega⟩]; exact hr)
              | (rw [if_neg (by omega), if_neg (by omega)]; exact hr))
          | (rw [if_neg (by omega)] at e; rw [e]; first
              | (rw [if_pos (by omega), if_pos ⟨by omega, by omega⟩]; exact hr)
              | (rw [if_pos (by omega), if_neg (by omega)]; exact hr)
              | (rw [if_neg (by omega), if_pos ⟨by omega, by omega⟩]; exact hr)
              | (rw [if_neg (by omega), if_neg (by omega)]; exact hr))
      simp only [bne_eq_false_iff_eq] at h88
      refine wc_skip ?_
      refine then_n ?_
      repeat refine wc_seq ?_
      refine wc_region ?_
      refine w_val rfl rfl (op_pure rfl) ?_
      refine w_val rfl rfl (op_pure rfl) ?_
      refine w_nil ?_
      refine then_n ?_
      refine wc_ret ?_
      repeat first | refine then_r ?_ | refine out_r ?_ | refine round_r ?_ | refine cut_r ?_ | refine sc_r ?_
      refine ⟨_, rfl, hK, ?_, fun g hg => (hS.bd 1 rfl g hg).1⟩
      have e : nextA l a = _ := hnx
      unfold nextD outN at e
      rw [if_neg h46, ← hf, ← hg] at e
      have hr := hS.row 1 rfl
      first
        | (rw [if_pos (by omega)] at e; rw [e]; first
            | (rw [if_pos (by omega), if_pos ⟨by omega, by omega⟩]; exact hr)
            | (rw [if_pos (by omega), if_neg (by omega)]; exact hr)
            | (rw [if_neg (by omega), if_pos ⟨by omega, by omega⟩]; exact hr)
            | (rw [if_neg (by omega), if_neg (by omega)]; exact hr))
        | (rw [if_neg (by omega)] at e; rw [e]; first
            | (rw [if_pos (by omega), if_pos ⟨by omega, by omega⟩]; exact hr)
            | (rw [if_pos (by omega), if_neg (by omega)]; exact hr)
            | (rw [if_neg (by omega), if_pos ⟨by omega, by omega⟩]; exact hr)
            | (rw [if_neg (by omega), if_neg (by omega)]; exact hr))
    simp only [decide_eq_false_iff_not] at h84
    refine w_off rfl rfl ?_
    refine w_off rfl rfl ?_
    refine w_off rfl rfl ?_
    refine w_val rfl rfl (op_pure rfl) ?_
    refine w_nil ?_
    refine then_n ?_
    repeat refine wc_seq ?_
    refine wc_cond_f rfl ?_
    refine wc_skip ?_
    refine then_n ?_
    repeat refine wc_seq ?_
    refine wc_region ?_
    refine w_val rfl rfl (op_pure rfl) ?_
    refine w_val rfl rfl (op_pure rfl) ?_
    refine w_nil ?_
    refine then_n ?_
    refine wc_ret ?_
    repeat first | refine then_r ?_ | refine out_r ?_ | refine round_r ?_ | refine cut_r ?_ | refine sc_r ?_
    refine ⟨_, rfl, hK, ?_, fun g hg => (hS.bd 1 rfl g hg).1⟩
    have e : nextA l a = _ := hnx
    unfold nextD outN at e
    rw [if_neg h46, ← hf, ← hg] at e
    have hr := hS.row 1 rfl
    first
      | (rw [if_pos (by omega)] at e; rw [e]; first
          | (rw [if_pos (by omega), if_pos ⟨by omega, by omega⟩]; exact hr)
          | (rw [if_pos (by omega), if_neg (by omega)]; exact hr)
          | (rw [if_neg (by omega), if_pos ⟨by omega, by omega⟩]; exact hr)
          | (rw [if_neg (by omega), if_neg (by omega)]; exact hr))
      | (rw [if_neg (by omega)] at e; rw [e]; first
          | (rw [if_pos (by omega), if_pos ⟨by omega, by omega⟩]; exact hr)
          | (rw [if_pos (by omega), if_neg (by omega)]; exact hr)
          | (rw [if_neg (by omega), if_pos ⟨by omega, by omega⟩]; exact hr)
          | (rw [if_neg (by omega), if_neg (by omega)]; exact hr))
  simp only [decide_eq_false_iff_not] at h76
  refine wc_skip ?_
  refine then_n ?_
  repeat refine wc_seq ?_
  refine wc_region ?_
  refine w_val rfl rfl (op_pure rfl) ?_
  refine w_val rfl rfl (op_pure rfl) ?_
  refine w_val rfl rfl (op_pure rfl) ?_
  refine w_val rfl rfl (op_pure rfl) ?_
  refine w_split (i := 84) rfl (fun h84 => ?_) (fun h84 => ?_)
  · simp only [decide_eq_true_eq] at h84
    refine w_val rfl rfl (op_pure rfl) ?_
    refine w_val rfl rfl (op_pure rfl) ?_
    refine w_val rfl rfl (op_pure rfl) ?_
    refine w_val rfl rfl (op_pure rfl) ?_
    refine w_nil ?_
    refine then_n ?_
    repeat refine wc_seq ?_
    refine wc_condT rfl (fun h88 => ?_) (fun h88 => ?_)
    · simp only [ne_eq, bne_iff_ne] at h88
      refine wc_region ?_
      refine w_val rfl rfl (op_pure rfl) ?_
      refine w_val rfl rfl (op_pure rfl) ?_
      refine ws_lit1 hS rfl rfl rfl rfl rfl rfl rfl rfl (by decide) (by decide) rfl (by first | rfl | assumption | exact Row.leaf (by assumption)) rfl ?_
      rintro lt91 z hS hk hlt91
      have hK := hS.K
      refine ws_append 1 hS rfl rfl rfl rfl rfl rfl rfl rfl rfl rfl rfl (by decide) (hlt91) (by first | (simp only [List.length_map, List.length_nil, List.length_cons, maxBytes]; omega) | (simp [maxBytes]; omega)) (by first | (simp only [List.length_map, List.length_nil, List.length_cons, maxBytes]; omega) | (simp [maxBytes]; omega)) ?_
      rintro at92 z hS
      have hS : SH _ [_, _] z := hS
      have hK := hS.K
      refine w_val rfl rfl (op_pure rfl) ?_
      refine w_nil ?_
      refine then_n ?_
      repeat refine wc_seq ?_
      refine wc_region ?_
      refine w_val rfl rfl (op_pure rfl) ?_
      refine w_val rfl rfl (op_pure rfl) ?_
      refine w_nil ?_
      refine then_n ?_
      refine wc_ret ?_
      repeat first | refine then_r ?_ | refine out_r ?_ | refine round_r ?_ | refine cut_r ?_ | refine sc_r ?_
      refine ⟨_, rfl, hK, ?_, fun g hg => (hS.bd 1 rfl g hg).1⟩
      have e : nextA l a = _ := hnx
      unfold nextD outN at e
      rw [if_neg h46, ← hf, ← hg] at e
      have hr := hS.row 1 rfl
      first
        | (rw [if_pos (by omega)] at e; rw [e]; first
            | (rw [if_pos (by omega), if_pos ⟨by omega, by omega⟩]; exact hr)
            | (rw [if_pos (by omega), if_neg (by omega)]; exact hr)
            | (rw [if_neg (by omega), if_pos ⟨by omega, by omega⟩]; exact hr)
            | (rw [if_neg (by omega), if_neg (by omega)]; exact hr))
        | (rw [if_neg (by omega)] at e; rw [e]; first
            | (rw [if_pos (by omega), if_pos ⟨by omega, by omega⟩]; exact hr)
            | (rw [if_pos (by omega), if_neg (by omega)]; exact hr)
            | (rw [if_neg (by omega), if_pos ⟨by omega, by omega⟩]; exact hr)
            | (rw [if_neg (by omega), if_neg (by omega)]; exact hr))
    simp only [bne_eq_false_iff_eq] at h88
    refine wc_skip ?_
    refine then_n ?_
    repeat refine wc_seq ?_
    refine wc_region ?_
    refine w_val rfl rfl (op_pure rfl) ?_
    refine w_val rfl rfl (op_pure rfl) ?_
    refine w_nil ?_
    refine then_n ?_
    refine wc_ret ?_
    repeat first | refine then_r ?_ | refine out_r ?_ | refine round_r ?_ | refine cut_r ?_ | refine sc_r ?_
    refine ⟨_, rfl, hK, ?_, fun g hg => (hS.bd 1 rfl g hg).1⟩
    have e : nextA l a = _ := hnx
    unfold nextD outN at e
    rw [if_neg h46, ← hf, ← hg] at e
    have hr := hS.row 1 rfl
    first
      | (rw [if_pos (by omega)] at e; rw [e]; first
          | (rw [if_pos (by omega), if_pos ⟨by omega, by omega⟩]; exact hr)
          | (rw [if_pos (by omega), if_neg (by omega)]; exact hr)
          | (rw [if_neg (by omega), if_pos ⟨by omega, by omega⟩]; exact hr)
          | (rw [if_neg (by omega), if_neg (by omega)]; exact hr))
      | (rw [if_neg (by omega)] at e; rw [e]; first
          | (rw [if_pos (by omega), if_pos ⟨by omega, by omega⟩]; exact hr)
          | (rw [if_pos (by omega), if_neg (by omega)]; exact hr)
          | (rw [if_neg (by omega), if_pos ⟨by omega, by omega⟩]; exact hr)
          | (rw [if_neg (by omega), if_neg (by omega)]; exact hr))
  simp only [decide_eq_false_iff_not] at h84
  refine w_off rfl rfl ?_
  refine w_off rfl rfl ?_
  refine w_off rfl rfl ?_
  refine w_val rfl rfl (op_pure rfl) ?_
  refine w_nil ?_
  refine then_n ?_
  repeat refine wc_seq ?_
  refine wc_cond_f rfl ?_
  refine wc_skip ?_
  refine then_n ?_
  repeat refine wc_seq ?_
  refine wc_region ?_
  refine w_val rfl rfl (op_pure rfl) ?_
  refine w_val rfl rfl (op_pure rfl) ?_
  refine w_nil ?_
  refine then_n ?_
  refine wc_ret ?_
  repeat first | refine then_r ?_ | refine out_r ?_ | refine round_r ?_ | refine cut_r ?_ | refine sc_r ?_
  refine ⟨_, rfl, hK, ?_, fun g hg => (hS.bd 1 rfl g hg).1⟩
  have e : nextA l a = _ := hnx
  unfold nextD outN at e
  rw [if_neg h46, ← hf, ← hg] at e
  have hr := hS.row 1 rfl
  first
    | (rw [if_pos (by omega)] at e; rw [e]; first
        | (rw [if_pos (by omega), if_pos ⟨by omega, by omega⟩]; exact hr)
        | (rw [if_pos (by omega), if_neg (by omega)]; exact hr)
        | (rw [if_neg (by omega), if_pos ⟨by omega, by omega⟩]; exact hr)
        | (rw [if_neg (by omega), if_neg (by omega)]; exact hr))
    | (rw [if_neg (by omega)] at e; rw [e]; first
        | (rw [if_pos (by omega), if_pos ⟨by omega, by omega⟩]; exact hr)
        | (rw [if_pos (by omega), if_neg (by omega)]; exact hr)
        | (rw [if_neg (by omega), if_pos ⟨by omega, by omega⟩]; exact hr)
        | (rw [if_neg (by omega), if_neg (by omega)]; exact hr))
set_option maxRecDepth 10000 in
set_option maxHeartbeats 8000000 in
theorem without_ok {s : St} {v c1 c2 c3 c4 c5 : AV} {l : List InstrL} (hok : s.Ok) (hv : Row s.h 2 v (l.map inC)) (hl : l.length ≤ 2097152) (hz : ([c1, c2, c3, c4, c5, v] : List AV).all AV.leaf = true) :
    CallS Try.prog Tt Kt 98 [.agg [c1, c2, c3, c4, c5, v], .int .i64 0, .int .i64 (-1)] s (fun r s' => Keep [] s s' ∧ ∃ L, MkN l 0 L ∧ Row s'.h 1 r (L.map bC) ∧ (∀ g ∈ r.gs, s.ctr ≤ g) ∧ (r.gs = [] → r = .nils)) := by
  refine call_of (fn := Try.f98) (nt := 85) Try.func98 rfl rfl rfl ?_
  repeat refine wc_seq ?_
  have hS := SH.start hok
  refine wc_region ?_
  refine ws_box hS rfl rfl rfl hz ?_
  rintro p0 z hS hk
  have hS : SH _ [_] z := hS
  have hK := hS.K
  refine w_val rfl rfl (op_pure rfl) ?_
  refine w_nil ?_
  refine then_n ?_
  repeat refine wc_seq ?_
  refine wc_region ?_
  refine w_val rfl rfl (op_fldP rfl rfl rfl rfl (by decide)) ?_
  refine w_val rfl rfl (op_loadC 0 hS rfl rfl rfl (Nat.le_of_ble_eq_true rfl) rfl) ?_
  refine w_val rfl rfl (op_len rfl rfl rfl rfl rfl hv.slenF) ?_
  refine w_val rfl rfl (op_add rfl rfl (by unfold In64; omega)) ?_
  refine w_val rfl rfl (op_pure rfl) ?_
  refine w_nil ?_
  refine then_n ?_
  repeat refine wc_seq ?_
  refine wc_region ?_
  refine w_val rfl rfl (op_pure rfl) ?_
  refine ws_mk (n := l.length + 1) hS rfl rfl rfl rfl rfl rfl rfl rfl rfl (by decide) rfl (by simp only [maxBytes]; omega) (by omega) ?_
  rintro sv z hS hne hk
  have hS : SH s [ptC (.ptr p0 0 0) [c1, c2, c3, c4, c5, v], rowC sv 1 ((List.replicate (l.length + 1) false).map bC)] z := by rw [← rep_bC]; exact hS
  have hK := hS.K
  refine w_val rfl rfl (op_pure rfl) ?_
  refine w_nil ?_
  refine then_n ?_
  repeat refine wc_seq ?_
  refine wc_region ?_
  refine w_val rfl rfl (op_pure rfl) ?_
  refine w_val rfl rfl (op_int (v := .bool false) rfl rfl (by decide) rfl) ?_
  refine w_val rfl rfl (op_pure rfl) ?_
  refine w_val rfl rfl (op_pure rfl) ?_
  refine w_val rfl rfl (op_pure rfl) ?_
  refine w_val rfl rfl (op_int (v := .bool false) rfl rfl (by decide) (show intA .geq .i64 0 ((l.length : Nat) + 1) = some (.bool false) from congrArg (fun b => some (AV.bool b)) (decide_eq_false (by omega)))) ?_
  refine w_val rfl rfl (op_pure rfl) ?_
  refine w_val rfl rfl (op_pure rfl) ?_
  refine w_val rfl rfl (op_pure rfl) ?_
  refine w_val rfl rfl (op_pure rfl) ?_
  refine w_val rfl rfl (op_int (v := .bool false) rfl rfl (by decide) rfl) ?_
  refine w_val rfl rfl (op_pure rfl) ?_
  refine w_nil ?_
  refine then_n ?_
  repeat refine wc_seq ?_
  refine wc_cond_f rfl ?_
  refine wc_skip ?_
  refine then_n ?_
  repeat refine wc_seq ?_
  refine wc_region ?_
  refine w_val rfl rfl (op_pure rfl) ?_
  refine w_val rfl rfl (op_pure rfl) ?_
  first | refine w_val rfl rfl (op_idxF rfl rfl (by first | assumption | exact natA_cast _ _ | exact natA_succ _ _ | exact natA_toNat (by omega) | rfl) rfl rfl rfl rfl (hS.row 1 rfl) (by first | omega | (simp; done) | (simp; omega))) ?_ | refine w_val rfl rfl (op_idx rfl rfl (by first | assumption | exact natA_cast _ _ | exact natA_succ _ _ | exact natA_toNat (by omega) | rfl) rfl rfl rfl rfl (hS.row 1 rfl) (by first | omega | (simp; done) | (simp; omega))) ?_
  refine ws_storeE 1 hS rfl rfl rfl rfl rfl rfl rfl (by first | rfl | assumption | exact Row.leaf (by assumption)) (by first | omega | (simp; done) | (simp; omega)) ?_
  rintro z hS
  have hS : SH _ [_, _] z := hS
  have hK := hS.K
  refine w_nil ?_
  have hS : SH s [ptC (.ptr p0 0 0) [c1, c2, c3, c4, c5, v], rowC sv 1 (((List.replicate (l.length + 1) false).set 0 true).map bC)] z := by rw [List.map_set]; exact hS
  have hI := BfsI.start (l := l) (f := 0) (by omega)
  generalize (List.replicate (l.length + 1) false).set 0 true = L at hS hI
  refine then_n ?_
  repeat refine wc_seq ?_
  refine wc_region ?_
  refine w_val rfl rfl (op_pure rfl) ?_
  refine ws_lit1C hS rfl rfl rfl rfl rfl rfl rfl rfl (by decide) (by decide) rfl rfl rfl ?_
  rintro tv z hS hnt
  have hS : SH s [ptC (.ptr p0 0 0) [c1, c2, c3, c4, c5, v], rowC sv 1 (L.map bC), rowC tv 1 ((tI [0]).map iC)] z := hS
  have hK := hS.K
  refine w_val rfl rfl (op_pure rfl) ?_
  refine w_nil ?_
  refine then_n ?_
  repeat refine wc_seq ?_
  refine wc_region ?_
  refine w_val rfl rfl (op_pure rfl) ?_
  refine w_nil ?_
  refine then_n ?_
  repeat refine wc_seq ?_
  refine wc_block ?_
  refine wc_loop_at (fun jj m z => ∃ (L : List Bool) (todo : List Nat) (tv : AV) (k : Nat), jj = l.length + 1 - k ∧ k ≤ todo.length ∧ m = [(2, .int .i64 (-1)), (3, .ptr p0 0 0), (8, sv), (9, tv), (10, .int .i64 (k : Nat))] ∧ SH s [ptC (.ptr p0 0 0) [c1, c2, c3, c4, c5, v], rowC sv 1 (L.map bC), rowC tv 1 ((tI todo).map iC)] z ∧ BfsI l 0 L todo k) (l.length + 1)
    [(2, .int .i64 (-1)), (3, .ptr p0 0 0), (8, sv), (9, tv), (10, .int .i64 ((0 : Nat) : Int))] (Sub.cons rfl (Sub.cons rfl (Sub.cons rfl (Sub.cons rfl (Sub.cons rfl (Sub.nil _)))))) ⟨L, [0], tv, 0, rfl, by simp, rfl, hS, hI⟩ ?_
  clear hS hI hK hnt
  rintro jj m z ⟨L, todo, tv, k, rfl, hk, rfl, hS, hI⟩
  have hK := hS.K
  have hLl := hI.len
  have hct := hI.cnt
  repeat refine wc_seq ?_
  refine wc_region ?_
  refine w_val rfl rfl (op_pure rfl) ?_
  refine w_val rfl rfl (op_pure rfl) ?_
  first | refine w_val rfl rfl (op_len rfl rfl rfl rfl rfl (hS.row 2 rfl).slenF) ?_ | refine w_val rfl rfl (op_len rfl rfl rfl rfl rfl (hS.row 2 rfl).slen) ?_
  refine w_val rfl rfl (op_pure rfl) ?_
  refine w_nil ?_
  refine then_n ?_
  repeat refine wc_seq ?_
  refine wc_condT rfl (fun h40 => ?_) (fun h40 => ?_)
  · simp only [decide_eq_true_eq] at h40
    have hlen := tI_len todo
    obtain ⟨a, ha⟩ : ∃ a, todo[k]? = some a := ⟨_, List.getElem?_eq_getElem (by omega)⟩
    have hta := tI_get ha
    refine wc_skip ?_
    refine then_n ?_
    repeat refine wc_seq ?_
    refine wc_block ?_
    repeat refine wc_seq ?_
    have hR := Keep.refl hS.ok
    refine wc_draw (Old z []) (by kernel_rfl) rfl ?_
    refine wo_load hR rfl rfl ((hS.pt 0 rfl).at (Nat.le_of_ble_eq_true rfl)) rfl (fun _ _ h => by cases h) rfl rfl ?_
    refine wo_val (fun _ => rfl) rfl rfl (op_pure rfl) ?_
    refine wo_val (fun _ => rfl) rfl rfl (op_pure rfl) ?_
    refine wo_val (fun _ => rfl) rfl rfl (op_idxF rfl rfl (natA_cast _ _) rfl rfl rfl rfl (Row.bare (hS.row 2 rfl)) (by omega)) ?_
    refine wo_load hR rfl rfl (Row.mk_pt (hS.row 2 rfl) hta) rfl (fun _ _ h => by cases h) rfl rfl ?_
    refine wo_call hR rfl rfl (fun _ => rfl) (op_call rfl rfl rfl rfl) (next_ref_ok hR.ok (Row.bare (hv.keep0 hK)) hl hz) (fun _ _ h => h.1) ?_
    rintro rv sC ⟨hk0, hr, hrb⟩ hR2
    have hrd : ∀ g ∈ rv.gs, g ∉ sv.gs ∧ g ∉ tv.gs := fun g hg => by
      have h0 : z.ctr ≤ g := hrb g hg
      exact ⟨fun h => by have := (hS.bd 1 rfl g h).2; omega, fun h => by have := (hS.bd 2 rfl g h).2; omega⟩
    have hr : Row (sC.join z).h 1 rv ((nextA l a).map iC) := hr
    have hS := hS.mov hk0.joined
    have hK := hS.K
    clear hR hR2 hk0
    generalize sC.join z = z at *
    refine wo_val (fun _ => rfl) rfl rfl (op_pure rfl) ?_
    refine wd_nil ?_
    have hnl := nextA_len l a
    refine then_n ?_
    repeat refine wc_seq ?_
    refine wc_region ?_
    refine w_val rfl rfl (op_pure rfl) ?_
    refine w_nil ?_
    refine then_n ?_
    refine wc_block ?_
    refine wc_loop_at (fun jj m z => ∃ (L : List Bool) (todo : List Nat) (tv : AV) (q : Nat), jj = (nextA l a).length - q ∧ q ≤ (nextA l a).length ∧ m = [(2, .int .i64 (-1)), (3, .ptr p0 0 0), (8, sv), (9, tv), (10, .int .i64 (k : Nat)), (11, rv), (12, .int .i64 (q : Nat))] ∧ SH s [ptC (.ptr p0 0 0) [c1, c2, c3, c4, c5, v], rowC sv 1 (L.map bC), rowC tv 1 ((tI todo).map iC)] z ∧ BfsI l 0 L todo k ∧ todo[k]? = some a ∧ Row z.h 1 rv ((nextA l a).map iC) ∧ (∀ g ∈ rv.gs, g ∉ sv.gs ∧ g ∉ tv.gs) ∧ ∀ (i b : Nat), i < q → (nextA l a)[i]? = some (b : Int) → Tk L b) (nextA l a).length
      [(2, .int .i64 (-1)), (3, .ptr p0 0 0), (8, sv), (9, tv), (10, .int .i64 (k : Nat)), (11, rv), (12, .int .i64 ((0 : Nat) : Int))] (Sub.cons rfl (Sub.cons rfl (Sub.cons rfl (Sub.cons rfl (Sub.cons rfl (Sub.cons rfl (Sub.cons rfl (Sub.nil _)))))))) ⟨L, todo, tv, 0, by simp, by simp, rfl, hS, hI, ha, hr, hrd, fun i b h => by omega⟩ ?_
    clear hS hI hK hr ha hta hlen hLl hct hrd hk
    rintro j1 m1 z ⟨L, todo, tv, q, rfl, hq, rfl, hS, hI, ha, hr, hrd, hT⟩
    have hK := hS.K
    have hLl := hI.len
    have hct := hI.cnt
    have hlen := tI_len todo
    have hak := (List.getElem?_eq_some_iff.1 ha).1
    repeat refine wc_seq ?_
    refine wc_region ?_
    refine w_val rfl rfl (op_pure rfl) ?_
    refine w_val rfl rfl (op_pure rfl) ?_
    refine w_val rfl rfl (op_len rfl rfl rfl rfl rfl hr.slenF) ?_
    refine w_val rfl rfl (op_pure rfl) ?_
    refine w_nil ?_
    refine then_n ?_
    repeat refine wc_seq ?_
    refine wc_condT rfl (fun h52 => ?_) (fun h52 => ?_)
    · simp only [decide_eq_true_eq] at h52
      refine wc_skip ?_
      refine then_n ?_
      repeat refine wc_seq ?_
      refine wc_block ?_
      repeat refine wc_seq ?_
      obtain ⟨bi, hbi⟩ : ∃ b, (nextA l a)[q]? = some b := ⟨_, List.getElem?_eq_getElem (by omega)⟩
      obtain ⟨hb0, hbn⟩ := nextA_in (List.mem_of_getElem? hbi)
      obtain ⟨b, rfl⟩ : ∃ b : Nat, bi = b := ⟨bi.toNat, by omega⟩
      obtain ⟨bb, hbb⟩ : ∃ x, L[b]? = some x := ⟨_, List.getElem?_eq_getElem (by omega)⟩
      refine wc_region ?_
      refine w_val rfl rfl (op_pure rfl) ?_
      refine w_val rfl rfl (op_pure rfl) ?_
      refine w_val rfl rfl (op_pure rfl) ?_
      refine w_val rfl rfl (op_idxF rfl rfl (natA_cast _ _) rfl rfl rfl rfl hr (by omega)) ?_
      refine w_val rfl rfl (op_load rfl rfl (Row.mk_pt hr hbi) rfl) ?_
      first | refine w_val rfl rfl (op_idxF rfl rfl (by first | assumption | exact natA_cast _ _ | exact natA_succ _ _ | exact natA_toNat (by omega) | rfl) rfl rfl rfl rfl (hS.row 1 rfl) (by first | omega | (simp; done) | (simp; omega))) ?_ | refine w_val rfl rfl (op_idx rfl rfl (by first | assumption | exact natA_cast _ _ | exact natA_succ _ _ | exact natA_toNat (by omega) | rfl) rfl rfl rfl rfl (hS.row 1 rfl) (by first | omega | (simp; done) | (simp; omega))) ?_
      first | refine w_val rfl rfl (op_load rfl rfl (Row.mk_pt (hS.row 1 rfl) (by assumption)) rfl) ?_ | refine w_val rfl rfl (op_load rfl rfl (Row.pt (hS.row 1 rfl) (by assumption)) rfl) ?_
      refine w_val rfl rfl (op_pure rfl) ?_
      refine w_val rfl rfl (op_pure rfl) ?_
      refine w_split (i := 63) rfl (fun h63 => ?_) (fun h63 => ?_)
      · simp only [Bool.not_eq_true'] at h63
        subst h63
        refine w_val rfl rfl (op_pure rfl) ?_
        refine w_val rfl rfl (op_pure rfl) ?_
        refine w_val rfl rfl (op_idxF rfl rfl (natA_cast _ _) rfl rfl rfl rfl hr (by omega)) ?_
        refine w_val rfl rfl (op_load rfl rfl (Row.mk_pt hr hbi) rfl) ?_
        refine w_val rfl rfl (op_pure rfl) ?_
        refine w_val rfl rfl (op_int (v := .bool true) rfl rfl (by decide) (show intA .neq .i64 (b : Nat) (-1) = some (.bool true) from congrArg (fun b => some (AV.bool b)) (by rw [bne_iff_ne]; omega))) ?_
        refine w_val rfl rfl (op_pure rfl) ?_
        refine w_nil ?_
        refine then_n ?_
        refine wc_cond_t rfl ?_
        repeat refine wc_seq ?_
        refine wc_region ?_
        refine w_val rfl rfl (op_pure rfl) ?_
        refine w_val rfl rfl (op_pure rfl) ?_
        refine w_val rfl rfl (op_pure rfl) ?_
        refine w_val rfl rfl (op_idxF rfl rfl (natA_cast _ _) rfl rfl rfl rfl hr (by omega)) ?_
        refine w_val rfl rfl (op_load rfl rfl (Row.mk_pt hr hbi) rfl) ?_
        first | refine w_val rfl rfl (op_idxF rfl rfl (by first | assumption | exact natA_cast _ _ | exact natA_succ _ _ | exact natA_toNat (by omega) | rfl) rfl rfl rfl rfl (hS.row 1 rfl) (by first | omega | (simp; done) | (simp; omega))) ?_ | refine w_val rfl rfl (op_idx rfl rfl (by first | assumption | exact natA_cast _ _ | exact natA_succ _ _ | exact natA_toNat (by omega) | rfl) rfl rfl rfl rfl (hS.row 1 rfl) (by first | omega | (simp; done) | (simp; omega))) ?_
        refine w_store_row rfl rfl rfl rfl rfl rfl rfl hK.ok (hS.row 1 rfl) (fun e => by have h0 := hS.nls 1 rfl e; have hx := hS.row 1 rfl; rw [h0] at hx; have h1 := congrArg List.length (show L.map bC = [] from hx); rw [List.length_map, List.length_nil] at h1; omega) (by rw [List.length_map]; omega) ?_
        intro z2 hx2 hk2 hc2
        have hr := hr.keep hk2 (fun g hg => (hrd g hg).1)
        have hcn := cntF_set hbb
        have hS := hS.upd 1 rfl hk2 (fun g hg => hg) (rowC sv 1 ((L.set b true).map bC)) ⟨by rw [List.map_set]; exact hx2, hS.nls 1 rfl⟩ (fun g hg => .inl hg)
        have hS : SH _ [_, _, _] z2 := hS
        have hK := hS.K
        have hrlt := hr.lt hK.ok
        clear hx2 hk2 hc2
        refine w_nil ?_
        refine then_n ?_
        refine wc_region ?_
        refine w_val rfl rfl (op_pure rfl) ?_
        refine w_val rfl rfl (op_pure rfl) ?_
        refine w_val rfl rfl (op_pure rfl) ?_
        refine w_val rfl rfl (op_idxF rfl rfl (natA_cast _ _) rfl rfl rfl rfl hr (by omega)) ?_
        refine w_val rfl rfl (op_load rfl rfl (Row.mk_pt hr hbi) rfl) ?_
        refine ws_lit1 (sz := 1) hS rfl rfl rfl rfl rfl rfl rfl rfl (by decide) (by decide) rfl rfl rfl ?_
        rintro lb z3 hS hk3 hlb
        have hr := hr.keep0 hk3
        have hrlt := hr.lt hS.ok
        have hK := hS.K
        refine w_append rfl rfl rfl rfl rfl rfl rfl rfl rfl (by decide) hS.ok (hS.row 2 rfl) (hS.nls 2 rfl) hlb (by simp only [List.length_map, List.length_cons, List.length_nil, maxBytes]; omega) (by simp only [List.length_map, List.length_cons, List.length_nil, maxBytes]; omega) ?_
        rintro tv2 z hx4 hk4 - hg4 hn4 -
        have hr := hr.keep hk4 (fun g hg => (hrd g hg).2)
        have hS := hS.upd 2 rfl hk4 (fun g hg => hg) (rowC tv2 1 ((tI (todo ++ [b])).map iC)) ⟨by rw [tI_app, List.map_append]; exact hx4, hn4⟩ (fun g hg => by
          rcases hg4 with h | h
          · exact .inl (by have hg : g ∈ tv2.gs := hg; rwa [h] at hg)
          · have hg : g ∈ tv2.gs := hg
            exact .inr ⟨by rw [h] at hg; rw [List.mem_singleton.1 hg]; exact Nat.le_refl _, hx4.lt hk4.ok g hg⟩)
        have hS : SH _ [_, _, _] z := hS
        have hK := hS.K
        have hrd2 : ∀ g ∈ rv.gs, g ∉ sv.gs ∧ g ∉ tv2.gs := fun g hg => ⟨(hrd g hg).1, fun h => by
          rcases hg4 with e | e
          · rw [e] at h; exact (hrd g hg).2 h
          · rw [e] at h; have := List.mem_singleton.1 h; have := hrlt g hg; omega⟩
        refine w_val rfl rfl (op_pure rfl) ?_
        refine w_nil ?_
        refine out_n ?_
        refine then_n ?_
        refine wc_region ?_
        refine w_val rfl rfl (op_pure rfl) ?_
        refine w_val rfl rfl (op_add rfl rfl (by unfold In64; omega)) ?_
        refine w_val rfl rfl (op_pure rfl) ?_
        refine w_nil ?_
        exact round_n _ _ (by omega) (Sub.cons rfl (Sub.cons rfl (Sub.cons rfl (Sub.cons rfl (Sub.cons rfl (Sub.cons rfl (Sub.cons rfl (Sub.nil _)))))))) ⟨L.set b true, todo ++ [b], tv2, q + 1, rfl, by omega, rfl, hS, hI.add ha (List.mem_of_getElem? hbi) hbb, by rw [List.getElem?_append_left hak]; exact ha, hr, hrd2, fun i b' hi h => (Nat.lt_succ_iff_lt_or_eq.1 hi).elim (fun h1 => (Tk_set (by omega)).2 (.inr (hT i b' h1 h))) (fun e => by
          subst e; rw [hbi] at h
          have : b = b' := by have := Option.some.inj h; omega
          rw [← this]; exact (Tk_set (by omega)).2 (.inl rfl))⟩
      simp only [Bool.not_eq_false'] at h63
      subst h63
      refine w_off rfl rfl ?_
      refine w_off rfl rfl ?_
      refine w_off rfl rfl ?_
      refine w_off rfl rfl ?_
      refine w_off rfl rfl ?_
      refine w_off rfl rfl ?_
      refine w_val rfl rfl (op_pure rfl) ?_
      refine w_nil ?_
      refine then_n ?_
      refine wc_cond_f rfl ?_
      refine wc_skip ?_
      refine out_n ?_
      refine then_n ?_
      refine wc_region ?_
      refine w_val rfl rfl (op_pure rfl) ?_
      refine w_val rfl rfl (op_add rfl rfl (by unfold In64; omega)) ?_
      refine w_val rfl rfl (op_pure rfl) ?_
      refine w_nil ?_
      exact round_n _ _ (by omega) (Sub.cons rfl (Sub.cons rfl (Sub.cons rfl (Sub.cons rfl (Sub.cons rfl (Sub.cons rfl (Sub.cons rfl (Sub.nil _)))))))) ⟨L, todo, tv, q + 1, rfl, by omega, rfl, hS, hI, ha, hr, hrd, fun i b' hi h => (Nat.lt_succ_iff_lt_or_eq.1 hi).elim (fun h1 => hT i b' h1 h) (fun e => by
        subst e; rw [hbi] at h
        have : b = b' := by have := Option.some.inj h; omega
        rw [← this]; exact hbb)⟩
    simp only [decide_eq_false_iff_not] at h52
    obtain rfl : q = (nextA l a).length := by omega
    have hall : ∀ b, EdN l a b → Tk L b := fun b hb => by
      obtain ⟨i, hi⟩ := List.getElem?_of_mem hb
      exact hT i b (List.getElem?_eq_some_iff.1 hi).1 hi
    refine wc_exit ?_
    repeat first | refine then_x ?_ | refine round_x ?_ | refine cut_x ?_ | refine out_x' (by decide) ?_
    refine out_x ?_
    refine out_n ?_
    refine then_n ?_
    refine wc_region ?_
    refine w_val rfl rfl (op_pure rfl) ?_
    refine w_val rfl rfl (op_add rfl rfl (by unfold In64; omega)) ?_
    refine w_val rfl rfl (op_pure rfl) ?_
    refine w_nil ?_
    exact round_n _ _ (by omega) (Sub.cons rfl (Sub.cons rfl (Sub.cons rfl (Sub.cons rfl (Sub.cons rfl (Sub.nil _)))))) ⟨L, todo, tv, k + 1, rfl, by omega, rfl, hS, hI.next ha hall⟩
  simp only [decide_eq_false_iff_not] at h40
  have hlen := tI_len todo
  obtain rfl : k = todo.length := by omega
  have hM := hI.marks
  refine wc_exit ?_
  repeat first | refine then_x ?_ | refine round_x ?_ | refine cut_x ?_ | refine out_x' (by decide) ?_
  refine out_x ?_
  refine then_n ?_
  repeat refine wc_seq ?_
  refine wc_region ?_
  refine w_val rfl rfl (op_pure rfl) ?_
  refine w_val rfl rfl (op_pure rfl) ?_
  refine w_nil ?_
  refine then_n ?_
  refine wc_ret ?_
  repeat first | refine then_r ?_ | refine out_r ?_ | refine round_r ?_ | refine cut_r ?_ | refine sc_r ?_
  exact ⟨_, rfl, hK, L, hM, hS.row 1 rfl, fun g hg => (hS.bd 1 rfl g hg).1, hS.nls 1 rfl⟩
set_option maxRecDepth 10000 in
set_option maxHeartbeats 8000000 in
theorem reach_ref_ok {s : St} {v c1 c2 c3 c4 c5 : AV} {l : List InstrL} (hok : s.Ok) (hv : Row s.h 2 v (l.map inC)) (hl : l.length ≤ 2097152) (hz : ([c1, c2, c3, c4, c5, v] : List AV).all AV.leaf = true) :
    CallS Try.prog Tt Kt 60 [.agg [c1, c2, c3, c4, c5, v], .int .i64 0] s (fun r s' => Keep [] s s' ∧ ∃ L, MkN l 0 L ∧ Row s'.h 1 r (L.map bC) ∧ (∀ g ∈ r.gs, s.ctr ≤ g) ∧ (r.gs = [] → r = .nils)) := by
  refine call_of (fn := Try.f60) (nt := 8) Try.func60 rfl rfl rfl ?_
  repeat refine wc_seq ?_
  have hS := SH.start hok
  refine wc_region ?_
  refine ws_box hS rfl rfl rfl hz ?_
  rintro p0 z hS hk
  have hS : SH _ [_] z := hS
  have hK := hS.K
  refine w_val rfl rfl (op_pure rfl) ?_
  refine w_nil ?_
  refine then_n ?_
  repeat refine wc_seq ?_
  refine wc_region ?_
  refine w_val rfl rfl (op_loadC 0 hS rfl rfl rfl (Nat.le_of_ble_eq_true rfl) rfl) ?_
  refine w_val rfl rfl (op_pure rfl) ?_
  refine w_call rfl rfl (op_call rfl rfl rfl rfl) (without_ok hK.ok (hv.keep0 hK) hl hz) ?_
  rintro rr z ⟨hk, L, hM, hr, hb, hn⟩
  have hc := hK.ctr
  refine w_val rfl rfl (op_pure rfl) ?_
  refine w_nil ?_
  refine then_n ?_
  refine wc_ret ?_
  repeat first | refine then_r ?_ | refine out_r ?_ | refine round_r ?_ | refine cut_r ?_ | refine sc_r ?_
  exact ⟨_, rfl, hK.two hk, L, hM, hr, fun g hg => Nat.le_trans hc (hb g hg), hn⟩
end Go.Ab
