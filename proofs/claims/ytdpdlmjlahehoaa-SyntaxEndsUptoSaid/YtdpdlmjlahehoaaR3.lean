/- 'Rows.SyntaxEndsUptoSaid': whatever row of statements comes in (of bulk at most 1048576), the law returns true and the row reads as it did. -/
import Derived.Test.YtdpdlmjlahehoaaRows
import Derived.Test.YtdpdlmjlahehoaaR2
import Derived.Test.YtdpdlmjlahehoaaC0
import Derived.Test.YtdpdlmjlahehoaaD9
import Derived.WalkKit
import Derived.ProofKit
import Derived.OpenShut
import Derived.JoinedCond
import Derived.Below
import Derived.Carry
namespace Go.Ab
open Go.Proofs
section
variable {H : Type} {h : Tr Grp} {n : Nat} {d : DataW H}
def toTerm : DataW H → TermL
  | .agg [a, b, c] => ⟨dInt a, dInt b, dStr c⟩
  | _ => ⟨0, 0, ByteArray.empty⟩
def toStmt : DataW H → StmtL
  | .agg [a, b, c, e] => ⟨dInt a, dStr b, (dElems c).map dStr, (dElems e).map fun r => (dElems r).map toTerm⟩
  | _ => ⟨0, ByteArray.empty, [], []⟩
theorem term_of (k : HasTy Try.prog n 116 d) : avs d = tC (toTerm d) := by
  obtain ⟨m, ds, rfl, hl, hx⟩ := ty_struct k Try.underlying116
  match ds, hl, hx with
  | [a, b, c], _, hx =>
    have h0 := (ty_int (hx 0 _ a rfl rfl) Try.underlying3).1
    have h1 := (ty_int (hx 1 _ b rfl rfl) Try.underlying2).1
    have h2 := ty_str (hx 2 _ c rfl rfl) Try.underlying9
    simp only [avs, avsAll, h0, h1, h2, toTerm, tC]
    rfl
theorem strs_of (k : HasTy Try.prog n 79 d) : ∃ nl, avs d = [.ro nl (elts (dElems d))] ∧ Row h 1 (.ro nl (elts (dElems d))) (((dElems d).map dStr).map sC) := by
  obtain ⟨m, nl, h1, -, h2⟩ := ty_slice k Try.underlying79
  exact ⟨nl, h1, rowF_elts h2 (fun x hx => ty_str (h2 x hx) Try.underlying9) (fun a => ⟨rfl, rfl⟩)⟩
theorem terms_of (k : HasTy Try.prog n 84 d) : ∃ nl, avs d = [.ro nl (elts (dElems d))] ∧ Row h 3 (.ro nl (elts (dElems d))) (((dElems d).map toTerm).map tC) := by
  obtain ⟨m, nl, h1, -, h2⟩ := ty_slice k Try.underlying84
  exact ⟨nl, h1, rowF_elts h2 (fun x hx => term_of (h2 x hx)) (fun a => ⟨rfl, rfl⟩)⟩
theorem exprs_of (k : HasTy Try.prog n 80 d) : ∃ nl, avs d = [.ro nl (elts (dElems d))] ∧ RowR h 1 TermsR (.ro nl (elts (dElems d))) ((dElems d).map fun r => (dElems r).map toTerm) := by
  obtain ⟨m, nl, h1, -, h2⟩ := ty_slice k Try.underlying80
  refine ⟨nl, h1, rowR_elts h2 (fun x hx => ?_) (fun x hx => ?_)⟩
  · obtain ⟨nl', h3, h4⟩ := terms_of (h := h) (h2 x hx)
    exact ⟨_, h3, h4⟩
  · obtain ⟨nl', h3, -⟩ := terms_of (h := h) (h2 x hx)
    rw [h3]; exact ⟨rfl, rfl⟩
theorem stmt_of (k : HasTy Try.prog n 82 d) : StmtR h (toStmt d) (avs d) ∧ (avs d).length = 4 ∧ (avs d).all AV.leaf = true := by
  obtain ⟨m, ds, rfl, hl, hx⟩ := ty_struct k Try.underlying82
  match ds, hl, hx with
  | [a, b, c, e], _, hx =>
    have h0 := (ty_int (hx 0 _ a rfl rfl) Try.underlying3).1
    have h1 := ty_str (hx 1 _ b rfl rfl) Try.underlying9
    obtain ⟨n1, h2, h3⟩ := strs_of (h := h) (hx 2 _ c rfl rfl)
    obtain ⟨n2, h4, h5⟩ := exprs_of (h := h) (hx 3 _ e rfl rfl)
    have e1 : avs (.agg [a, b, c, e]) = [.int .i64 (dInt a), .str (dStr b), .ro n1 (elts (dElems c)), .ro n2 (elts (dElems e))] := by
      simp only [avs, avsAll, h0, h1, h2, h4]; rfl
    rw [e1]
    exact ⟨⟨_, _, rfl, h3, h5⟩, rfl, rfl⟩
theorem stmts_of (k : HasTy Try.prog n 22 d) : RowR h 4 StmtR (packE d (avs d)) ((dElems d).map toStmt) := by
  obtain ⟨m, nl, -, h1, h2⟩ := ty_slice k Try.underlying22
  rw [h1]
  exact rowR_elts h2 (fun x hx => (stmt_of (h2 x hx)).1) (fun x hx => (stmt_of (h := .leaf) (h2 x hx)).2)
end
end Go.Ab
namespace Go.Proofs.Ytdpdlmjlahehoaa
open Go.ChangeShapes Go.WideShapes Go.ChangeAt Go.RowKit Go.Ab
section
variable {H : Type}
theorem bulk_pos (d : DataW H) : 1 ≤ Rows.uptoBulk d := by
  cases d with
  | lit l => cases l <;> simp [Rows.uptoBulk]
  | _ => simp [Rows.uptoBulk]
theorem bulk_len : ∀ (es : List (DataW H)), es.length ≤ Rows.uptoBulkAll es
  | [] => by simp [Rows.uptoBulkAll]
  | d :: r => by
    have h1 := bulk_pos d
    have h2 := bulk_len r
    simp only [Rows.uptoBulkAll, List.length_cons]
    omega
theorem bulk_mem : ∀ (es : List (DataW H)) (x : DataW H), x ∈ es → Rows.uptoBulk x ≤ Rows.uptoBulkAll es
  | d :: r, x, h => by
    simp only [Rows.uptoBulkAll]
    rcases List.mem_cons.1 h with rfl | h
    · omega
    · have := bulk_mem r x h; omega
theorem elems_len (d : DataW H) : (dElems d).length ≤ Rows.uptoBulk d := by
  cases d with
  | slice es sp => have := bulk_len es; simp only [dElems, Rows.uptoBulk]; omega
  | _ => simp [dElems]
theorem elems_mem (d : DataW H) (x : DataW H) (h : x ∈ dElems d) : Rows.uptoBulk x ≤ Rows.uptoBulk d := by
  cases d with
  | slice es sp => have := bulk_mem es x h; simp only [Rows.uptoBulk]; omega
  | _ => cases h
theorem stmt_small (d : DataW H) (h : Rows.uptoBulk d ≤ 2097152) : (toStmt d).small := by
  unfold toStmt
  split
  · rename_i a b c e
    simp only [Rows.uptoBulk, Rows.uptoBulkAll] at h
    have h1 := elems_len c
    have h2 := elems_len e
    refine ⟨by simp only [List.length_map]; omega, by simp only [List.length_map]; omega, fun ts hts => ?_⟩
    obtain ⟨r, hr, rfl⟩ := List.mem_map.1 hts
    have h3 := elems_mem e r hr
    have h4 := elems_len r
    simp only [List.length_map]; omega
  · exact ⟨by simp, by simp, fun ts h => by cases h⟩
end
theorem syntaxEnds_own : ownKnob Try.prog.godebug = none := by kernel_rfl
theorem plain22 : Plain Try.prog 10 22 = true := by kernel_rfl
set_option maxRecDepth 100000 in
theorem syntaxEnds_walk {H : Type} {enc : TypeId × Value → H} {W : World} {base : Nat} {v : Value} {d : DataW H} {ps : List MemPlace} (hval : Value.okWide Try.prog W .any base 22 v) (h : DataW.Trod enc Try.prog W 0 (fun _ => true) true 22 v d ps) (hb : Rows.uptoBulk d ≤ 1048576) :
    Calls Try.prog 3 #[v] W fun e w' => e = .returned (.bool true) ∧ Below W.heap.size W w' := by
  obtain ⟨fuel, hf⟩ := h
  have hr := read_ok (ρ := fun _ _ => none) fuel 22 _ _ hf 10 plain22
  refine run_ok prog_mixed tt_ok prog_ng (syntaxEnds_run zero_ok ?_ ?_ (stmts_of hr.1)) (CR.sole (packE_vr hr hval))
  · have := elems_len d
    simp only [List.length_map]; omega
  · intro x hx
    obtain ⟨y, hy, rfl⟩ := List.mem_map.1 hx
    exact stmt_small y (by have := elems_mem d y hy; omega)
set_option maxRecDepth 100000 in
theorem syntaxEnds_contract (H : Type) (enc : TypeId × Value → H) (W : World) (base : Nat) (args : Array Value) (ds gs : List (DataW H)) (before : List MemPlace)
    (hval : ∀ (j : Nat) t v, Try.f3.params[j]? = some t → args[j]? = some v → Value.okWide Try.prog W .any base t v)
    (hW : DataW.Whole enc Try.prog Try.f3.params.toList Rows.syntaxEndsSpec.vars false W args.toList ds gs before) (hk : Rows.uptoSmall H (ds ++ gs) = true) :
    Calls Try.prog 3 args W fun e W' => ∃ v, e = .returned v ∧ Rows.syntaxEndsSpec.post enc Try.prog Try.f3 false true false false W args v W' := by
  have hW' := hW
  have hlt := hW.lt
  obtain ⟨p, q, hA0, hV, rfl, hfz, hnd⟩ := hW
  have hA : DataW.TrodAll enc Try.prog W 0 (fun _ => true) true Try.f3.params.toList args.toList ds p := hA0
  rw [Try.params3] at hA hval
  obtain ⟨v0, vs0, d0, ds0, p0, q0, hargs, rfl, rfl, h0, r0⟩ := trodAll_cons hA
  obtain ⟨rfl, rfl, rfl⟩ := trodAll_nil r0
  obtain rfl : args = #[v0] := by cases args; simp_all
  obtain ⟨rfl, rfl⟩ := trodVars_none hV
  clear hA0
  simp only [List.append_nil] at hW' hlt
  have hb := of_decide_eq_true hk
  simp only [List.append_nil, Rows.uptoBulkAll] at hb
  refine (syntaxEnds_walk (hval 0 22 v0 rfl rfl) h0 (by omega)).mono fun e W' ⟨he, bel⟩ => ?_
  subst he
  exact ⟨_, rfl, _, _, _, [], _, [], hW', trodAll_mk1 (shut_bool Try.underlying4 _), trodAll_cons_mk (Below.trod (by kernel_rfl) (by kernel_rfl) (of_decide_eq_true (by kernel_rfl)) h0 bel hlt) trodAll_mk0, rfl, bel.frame _, fun h => by cases h⟩
set_option maxRecDepth 100000 in
theorem syntaxEnds_lifted (os : Os) (started : os.Started) (H : Type) (enc : TypeId × Value → H) (F : Stop.Interp) :
    ReturnsInHanded {} Try.checked os 3 .any ((Rows.OpenSpec.upto Rows.syntaxEndsSpec).pre6 enc Try.prog Try.f3 Rows.syntaxEndsUptoRow.domain false) (((Rows.OpenSpec.upto Rows.syntaxEndsSpec).at F).post enc Try.prog Try.f3 false true false false) := by
  refine returnsInHanded_of_cond (C := Try.checked) (s := Rows.OpenSpec.upto Rows.syntaxEndsSpec) (k := Rows.uptoSmall) rfl syntaxEnds_own started (by kernel_rfl) Try.func3
    (OpenSpec.witness (enc := enc) (C := Try.checked) (s := Rows.OpenSpec.upto Rows.syntaxEndsSpec) (k := Rows.uptoSmall) rfl false ⟨#[], #[.slice none 0 0], []⟩ 8 (by kernel_rfl) (by kernel_rfl) (by kernel_rfl)
      (x := ([.nil], [], [])) (by kernel_rfl) rfl (by kernel_rfl)) ?_
  intro W base args ds gs before hval hW _ hk _
  exact syntaxEnds_contract H enc W base args ds gs before hval hW hk
theorem syntaxEndsUpto_holds : Rows.SyntaxEndsUptoSaid :=
  OpenClaim.holds_of_cond 3 Try.f3 rfl rfl rfl rfl rfl rfl rfl ⟨rfl, rfl, rfl, rfl, rfl⟩ rfl rfl rfl rfl rfl (by kernel_rfl) Try.func3 (by kernel_rfl)
    (of_decide_eq_true (by kernel_rfl)) (by unfold Func.isWrapper; first | (rw [if_pos (by decide +kernel)]; kernel_rfl) | (rw [if_neg (by decide +kernel)]; exact ⟨rfl, rfl⟩))
    (fun os started H enc _ F => syntaxEnds_lifted os started H enc F)
end Go.Proofs.Ytdpdlmjlahehoaa
