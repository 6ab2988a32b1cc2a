/- The law SyntaxEnds over the abstract machine. -/
import Derived.Test.YtdpdlmjlahehoaaD7
import Derived.Test.YtdpdlmjlahehoaaD8
namespace Go.Ab
open Go.Proofs
theorem KindsR.of {h : Tr Grp} {v : AV} {xs : List StmtL} (k : RowR h 4 StmtR v xs) : KindsR h v (xs.map StmtL.kind) := by
  obtain ⟨css, hr, hl, hx⟩ := k
  refine ⟨css, hr, by rw [hl, List.length_map], fun i k c h1 h2 => ?_⟩
  rw [List.getElem?_map] at h1
  cases hxi : xs[i]? with
  | none => rw [hxi] at h1; cases h1
  | some x =>
    rw [hxi] at h1
    cases h1
    obtain ⟨vt, ve, rfl, -⟩ := hx i x c hxi h2
    exact ⟨_, _, _, rfl⟩
theorem EndsOut.shape {r : Option (List Int × List Int)} {v : AV} {h : Tr Grp} (k : EndsOut r v h) : ∃ a b, v = .tup [a, b, .bool r.isSome] ∧ Row h 1 a (((r.map Prod.fst).getD []).map iC) ∧ Row h 1 b (((r.map Prod.snd).getD []).map iC) ∧ ((r.map Prod.fst).getD []).length ≤ 2097152 ∧ ((r.map Prod.snd).getD []).length ≤ 2097152 := by
  cases r with
  | none => exact ⟨.nils, .nils, k, rfl, rfl, by simp, by simp⟩
  | some p =>
    obtain ⟨E, L⟩ := p
    obtain ⟨e, l, h1, h2, h3, h4, h5⟩ := k
    exact ⟨e, l, h1, h2, h3, h4, h5⟩
theorem StmtR.keep0 {s s' : St} {x : StmtL} {c : List AV} (k : StmtR s.h x c) (h : Keep [] s s') : StmtR s'.h x c := by
  obtain ⟨vt, ve, e, h1, h2⟩ := k
  exact ⟨vt, ve, e, h1.keep0 h, h2.keep0 (fun ⟨v, e, hv⟩ h => ⟨v, e, hv.keep0 h⟩) h⟩
set_option maxRecDepth 10000 in
theorem syntaxEnds_run {s : St} {v : AV} {xs : List StmtL} (hok : s.Ok) (hl : xs.length ≤ 2097152) (hll : ∀ x ∈ xs, x.small) (hv : RowR s.h 4 StmtR v xs) :
    CallS Try.prog Tt 3 [v] s (fun r _ => r = .bool true) := by
  refine call_of (fn := Try.f3) (nt := 42) Try.func3 rfl rfl ?_
  repeat refine wc_seq ?_
  refine wc_region ?_
  refine w_val rfl rfl (op_pure rfl) ?_
  refine w_nil ?_
  refine then_n ?_
  repeat refine wc_seq ?_
  refine wc_region ?_
  refine w_val rfl rfl (op_pure rfl) ?_
  refine w_call rfl rfl (op_call rfl rfl rfl rfl) (lentStmts_ok hok hl hll hv) ?_
  rintro inn s1 ⟨hk1, hin⟩
  have hK := (Keep.refl hok).two hk1
  have hkin : KindsR s1.h inn (xs.map StmtL.kind) := KindsR.of ((hin.to StmtLF.to).row StmtLR.to)
  refine w_val rfl rfl (op_pure rfl) ?_
  refine w_nil ?_
  refine then_n ?_
  repeat refine wc_seq ?_
  refine wc_region ?_
  refine w_val rfl rfl (op_pure rfl) ?_
  refine w_call rfl rfl (op_call rfl rfl rfl rfl) (ends_ok hK.ok (by simpa using hl) hkin) ?_
  rintro r1 s2 ⟨hk2, ho2⟩
  obtain ⟨a, b, rfl, ha, hb, hal, hbl⟩ := ho2.shape
  have hK := hK.two hk2
  have hin := hin.keep good_stmt hk2 (fun g hg => by cases hg)
  refine w_val rfl rfl (op_pure rfl) ?_
  refine w_val rfl rfl (op_pure rfl) ?_
  refine w_val rfl rfl (op_pure rfl) ?_
  refine w_val rfl rfl (op_pure rfl) ?_
  refine w_val rfl rfl (op_pure rfl) ?_
  refine w_val rfl rfl (op_pure rfl) ?_
  refine w_val rfl rfl (op_pure rfl) ?_
  refine w_nil ?_
  refine then_n ?_
  repeat refine wc_seq ?_
  refine wc_region ?_
  refine w_val rfl rfl (op_pure rfl) ?_
  refine w_call rfl rfl (op_call rfl rfl rfl rfl) (ends_ref_ok hK.ok (by simpa using hl) (KindsR.of (hv.keep0 StmtR.keep0 hK))) ?_
  rintro r2 s3 ⟨hk3, ho3⟩
  rw [← ends_same] at ho3
  obtain ⟨c, d, rfl, hc, hd, -, -⟩ := ho3.shape
  have hK := hK.two hk3
  have hin := hin.keep good_stmt hk3 (fun g hg => by cases hg)
  have ha := ha.keep0 hk3
  have hb := hb.keep0 hk3
  refine w_val rfl rfl (op_pure rfl) ?_
  refine w_val rfl rfl (op_pure rfl) ?_
  refine w_val rfl rfl (op_pure rfl) ?_
  refine w_val rfl rfl (op_pure rfl) ?_
  refine w_val rfl rfl (op_pure rfl) ?_
  refine w_val rfl rfl (op_pure rfl) ?_
  refine w_val rfl rfl (op_pure rfl) ?_
  refine w_nil ?_
  refine then_n ?_
  repeat refine wc_seq ?_
  refine wc_region ?_
  refine w_val rfl rfl (op_pure rfl) ?_
  refine w_val rfl rfl (op_pure rfl) ?_
  refine w_val rfl rfl (op_pure rfl) ?_
  refine w_val rfl rfl (op_pure rfl) ?_
  refine w_split (i := 27) rfl (fun h27 => ?_) (fun h27 => ?_)
  · clear h27
    refine w_val rfl rfl (op_pure rfl) ?_
    refine w_val rfl rfl (op_pure rfl) ?_
    refine w_call rfl rfl (op_call rfl rfl rfl rfl) (ints_same hal ha hc) ?_
    rintro _ sX ⟨eX, rfl⟩
    obtain rfl := eX.symm
    refine w_val rfl rfl (op_pure rfl) ?_
    refine w_val rfl rfl (op_pure rfl) ?_
    refine w_val rfl rfl (op_pure rfl) ?_
    refine w_val rfl rfl (op_pure rfl) ?_
    refine w_call rfl rfl (op_call rfl rfl rfl rfl) (ints_same hbl hb hd) ?_
    rintro _ sX ⟨eX, rfl⟩
    obtain rfl := eX.symm
    refine w_val rfl rfl (op_pure rfl) ?_
    refine w_val rfl rfl (op_pure rfl) ?_
    refine w_val rfl rfl (op_pure rfl) ?_
    refine w_val rfl rfl (op_pure rfl) ?_
    refine w_call rfl rfl (op_call rfl rfl rfl rfl) (keptStmts_ok hl hll (hin.to StmtLF.to) (hv.keep0 StmtR.keep0 hK)) ?_
    rintro _ sX ⟨eX, rfl⟩
    obtain rfl := eX.symm
    refine w_val rfl rfl (op_pure rfl) ?_
    refine w_val rfl rfl (op_pure rfl) ?_
    refine w_nil ?_
    refine then_n ?_
    refine wc_ret ?_
    repeat first | refine then_r ?_ | refine out_r ?_ | refine round_r ?_ | refine cut_r ?_
    exact ⟨_, rfl, rfl⟩
  simp at h27
end Go.Ab
