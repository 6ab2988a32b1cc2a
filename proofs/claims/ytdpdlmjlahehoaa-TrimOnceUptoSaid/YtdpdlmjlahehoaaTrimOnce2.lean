/- 'Rows.TrimOnceUptoSaid': whatever code comes in (of bulk at most 1048576), the law returns true and it reads as it did. -/
import Derived.Test.YtdpdlmjlahehoaaTrimOnce1
import Derived.WideShapes
import Derived.Test.YtdpdlmjlahehoaaRows
import Derived.WalkKit
import Derived.ProofKit
import Derived.OpenShut
import Derived.JoinedCond
import Derived.Below
import Derived.Carry
/- Runs of laws with arguments; rows of what was read. -/
namespace Go.Ab
open Go.WideShapes Go.RowKit
def St.zero : St := ⟨0, .leaf, []⟩
theorem zero_ok : St.zero.Ok := fun _ _ => rfl
theorem run_ok {P : Program} {T : Tab} (hm : P.follows .mixedOrders = true) (hT : TabOk P T) (hng : NoNG P) {K : FuncId → Option Bool} (hK : KOk P K) {f : FuncId} {args : List AV} {args' : Array Value} {w : World}
    (hc : CallS P T K f args St.zero fun r _ => r = .bool true) (ha : CR w w.heap.size (fun _ _ => none) args args'.toList) : Calls P f args' w fun e w' => e = .returned (.bool true) ∧ Below w.heap.size w w' := by
  obtain ⟨N, v, s', rfl, hn⟩ := hc
  have hs : Sim w w.heap.size (fun _ _ => none) St.zero w :=
    { low := Below.refl _ _, big := Nat.le_refl _,
      ver := by intros; simp_all, al := by intros; simp_all, sep := by intros; simp_all, ctr := by intros; simp_all }
  refine ((call_soundK (w0 := w) (B0 := w.heap.size) hm hT hng hK N f args _ _ _ (hn N (Nat.le_refl _))).2 _ w args' hs ha).mono fun e w' ⟨v', ρ', he, _, h2, h3⟩ => ?_
  cases h3
  exact ⟨he, h2.low⟩
section
variable {H : Type} {P : Program} {w : World} {ρ : Loc}
theorem packE_vr {r : Reach} {base n : Nat} {t : TypeId} {v : Value} {d : DataW H} (h : RdOk w P ρ n t v.cells.toList d) (hv : Value.okWide P w r base t v) : VR w w.heap.size ρ (packE d (avs d)) v := by
  obtain ⟨h1, h2, h3, h4⟩ := h
  cases n with
  | zero => exact h1.elim
  | succ n =>
    unfold HasTy at h1
    split at h1
    · rename_i hu
      obtain ⟨b, rfl⟩ := h1
      obtain ⟨b', rfl⟩ := okWide_bool hu hv
      simp only [avs, packE] at h3 ⊢
      exact h3.2 0 _ _ rfl rfl
    · rename_i hu
      obtain ⟨b, rfl, -⟩ := h1
      obtain ⟨b', rfl⟩ := okWide_int hu hv
      simp only [avs, packE] at h3 ⊢
      exact h3.2 0 _ _ rfl rfl
    · rename_i hu
      obtain ⟨b, rfl⟩ := h1
      obtain ⟨b', rfl⟩ := okWide_string hu hv
      simp only [avs, packE] at h3 ⊢
      exact h3.2 0 _ _ rfl rfl
    · rename_i hu
      obtain ⟨a, len, cap, rfl⟩ := okWide_slice hu hv
      rcases h1 with rfl | ⟨es, sp, rfl, -⟩
      · simp only [avs, packE] at h3 ⊢
        exact h3.2 0 _ _ rfl rfl
      · simp only [avs, packE] at h3 ⊢
        exact h3.2 0 _ _ rfl rfl
    · rename_i hu
      obtain ⟨arr, rfl, -⟩ := okWide_struct hu hv
      obtain ⟨ds, rfl, -⟩ := h1
      simp only [packE]
      have e : Value.cells (.agg arr) = arr := rfl
      rw [e] at h2 h3
      exact .agg _ arr (by simpa using h2) fun i u v hu hv => h3.2 i u v hu (by simpa using hv)
    · exact h1.elim
def dElems : DataW H → List (DataW H)
  | .slice es _ => es
  | _ => []
def dInt : DataW H → Int
  | .lit (.int _ n) => n
  | _ => 0
def dBool : DataW H → Bool
  | .lit (.bool b) => b
  | _ => false
def dStr : DataW H → ByteArray
  | .lit (.string bs) => ⟨bs.toArray⟩
  | _ => ByteArray.empty
theorem ty_int {n : Nat} {t : TypeId} {k : IntKind} {d : DataW H} (h : HasTy P n t d) (hu : P.underlying t = some (.int k)) : avs d = [.int k (dInt d)] ∧ (Lit.int k (dInt d)).wf = true := by
  cases n with
  | zero => exact h.elim
  | succ n =>
    unfold HasTy at h
    rw [hu] at h
    obtain ⟨m, rfl, hw⟩ := h
    exact ⟨by simp [avs, dInt], hw⟩
theorem ty_slice {n : Nat} {t e : TypeId} {d : DataW H} (h : HasTy P n t d) (hu : P.underlying t = some (.slice e)) : ∃ m nl, avs d = [.ro nl (elts (dElems d))] ∧ packE d (avs d) = .ro nl (elts (dElems d)) ∧ ∀ x ∈ dElems d, HasTy P m e x := by
  cases n with
  | zero => exact h.elim
  | succ n =>
    unfold HasTy at h
    rw [hu] at h
    rcases h with rfl | ⟨es, sp, rfl, hx⟩
    · exact ⟨n, true, by simp [avs, dElems, elts], by simp [avs, dElems, elts, packE], fun x hx => by cases hx⟩
    · exact ⟨n, false, by simp [avs, dElems], by simp [avs, dElems, packE], hx⟩
theorem ty_struct {n : Nat} {t : TypeId} {fs : Array Field} {d : DataW H} (h : HasTy P n t d) (hu : P.underlying t = some (.struct fs)) : ∃ m ds, d = .agg ds ∧ ds.length = fs.toList.length ∧ ∀ (i : Nat) (f : Field) (x : DataW H), fs.toList[i]? = some f → ds[i]? = some x → HasTy P m f.type x := by
  cases n with
  | zero => exact h.elim
  | succ n =>
    unfold HasTy at h
    rw [hu] at h
    obtain ⟨ds, h1, h2, h3⟩ := h
    exact ⟨n, ds, h1, h2, h3⟩
theorem row_elts {h : Tr Grp} {sz m : Nat} {e : TypeId} {nl : Bool} {es : List (DataW H)} (ht : ∀ x ∈ es, HasTy P m e x) (hc : ∀ x ∈ es, (avs x).length = sz ∧ (avs x).all AV.leaf = true) : Row h sz (.ro nl (elts es)) (es.map avs) := by
  refine ⟨?_, ?_⟩
  · rw [elts_map, List.map_map]
    exact List.map_congr_left fun x hx => (ht x hx).pack
  · intro c hc'
    obtain ⟨x, hx, rfl⟩ := List.mem_map.1 hc'
    exact hc x hx
/-- A row of flat elements. -/
theorem rowF_elts {h : Tr Grp} {sz m : Nat} {e : TypeId} {nl : Bool} {es : List (DataW H)} {α : Type} {f : DataW H → α} {c : α → List AV} (ht : ∀ x ∈ es, HasTy P m e x) (hx : ∀ x ∈ es, avs x = c (f x)) (hc : ∀ a, (c a).length = sz ∧ (c a).all AV.leaf = true) : Row h sz (.ro nl (elts es)) ((es.map f).map c) := by
  have := row_elts (h := h) (sz := sz) (nl := nl) ht fun x hx' => by rw [hx x hx']; exact hc _
  rw [List.map_map]
  rw [show es.map (c ∘ f) = es.map avs from List.map_congr_left fun x hx' => (hx x hx').symm]
  exact this
end
end Go.Ab
/- What the abstract machine asks of this program: the table, the orders. -/
namespace Go.Ab
open Go.Proofs
theorem tt_ok : TabOk Try.prog Tt := tab_ok (by kernel_rfl)
theorem prog_ng : NoNG Try.prog := ng_ok (by kernel_rfl)
theorem prog_mixed : Try.prog.follows .mixedOrders = true := by kernel_rfl
end Go.Ab
/- The table of closed functions is right. -/
namespace Go.Ab
open Go.Proofs Go.RowKit
theorem known_of {P : Program} {T : Tab} (hm : P.follows .mixedOrders = true) (hT : TabOk P T) (hng : NoNG P) {n : Nat} {f : FuncId} (h : yes (evCall P T n f [] ⟨0, .leaf, []⟩) = true) :
    Callable P f ∧ ∀ w, Calls P f #[] w fun e w' => e = .returned (.bool true) ∧ Below w.heap.size w w' := by
  refine ⟨?_, fun w => closed_run hm hT hng h w⟩
  cases hr : evCall P T n f [] ⟨0, .leaf, []⟩ with
  | none => simp [hr, yes] at h
  | some r => exact (call_sound (w0 := default) (B0 := 0) hm hT hng n f [] _ _ _ hr).1
set_option maxRecDepth 1000000 in
theorem awake26 : yes (evCall Try.prog Tt 3000 16 [] ⟨0, .leaf, []⟩) = true := by kernel_rfl
set_option maxRecDepth 1000000 in
theorem awake27 : yes (evCall Try.prog Tt 3000 33 [] ⟨0, .leaf, []⟩) = true := by kernel_rfl
theorem kt_ok : KOk Try.prog Kt := by
  intro f b h
  unfold Kt at h
  cases h1 : Nat.beq f 16 with
  | true =>
    rw [h1, cond_true] at h
    cases h
    rw [Nat.eq_of_beq_eq_true h1]
    exact known_of prog_mixed tt_ok prog_ng awake26
  | false =>
    rw [h1, cond_false] at h
    cases h2 : Nat.beq f 33 with
    | true =>
      rw [h2, cond_true] at h
      cases h
      rw [Nat.eq_of_beq_eq_true h2]
      exact known_of prog_mixed tt_ok prog_ng awake27
    | false => rw [h2, cond_false] at h; cases h
end Go.Ab
/- What is read of a module, an array, a function, an instruction; how much a reading holds. -/
namespace Go.Ab
open Go.Proofs
section
variable {H : Type} {h : Tr Grp} {n : Nat} {d : DataW H}
theorem wf_in {a : Int} (h : (Lit.int .i64 a).wf = true) : In64 a := by
  simp only [Lit.wf, Bool.and_eq_true, decide_eq_true_eq] at h
  have e1 : IntKind.i64.min = -9223372036854775808 := by decide
  have e2 : IntKind.i64.max = 9223372036854775807 := by decide
  rw [e1, e2] at h
  unfold In64
  omega
def toInstr : DataW H → InstrL
  | .agg [a, b] => ⟨dInt a, dInt b⟩
  | _ => ⟨0, 0⟩
def toArr : DataW H → ArrL
  | .agg [a, b] => ⟨dInt a, dInt b⟩
  | _ => ⟨0, 0⟩
def toFunc : DataW H → FuncL
  | .agg [l, p, r, a, b, c] => ⟨dInt l, (dElems p).map dInt, (dElems r).map dInt, dInt a, dInt b, (dElems c).map toInstr⟩
  | _ => ⟨0, [], [], 0, 0, []⟩
def toMod : DataW H → ModL
  | .agg [g, a, c, f] => ⟨(dElems g).map dInt, (dElems a).map toArr, (dElems c).map dInt, (dElems f).map toFunc⟩
  | _ => ⟨[], [], [], []⟩
theorem instr_of (k : HasTy Try.prog n 50 d) : avs d = inC (toInstr d) ∧ In64 (toInstr d).op ∧ In64 (toInstr d).a := by
  obtain ⟨m, ds, rfl, hl, hx⟩ := ty_struct k Try.underlying50
  match ds, hl, hx with
  | [a, b], _, hx =>
    have h0 := ty_int (hx 0 _ a rfl rfl) Try.underlying3
    have h1 := ty_int (hx 1 _ b rfl rfl) Try.underlying2
    refine ⟨?_, wf_in h0.2, wf_in h1.2⟩
    simp only [avs, avsAll, h0.1, h1.1, toInstr, inC]
    rfl
theorem code_of (k : HasTy Try.prog n 30 d) : ∃ nl, avs d = [.ro nl (elts (dElems d))] ∧ packE d (avs d) = .ro nl (elts (dElems d)) ∧ Row h 2 (.ro nl (elts (dElems d))) (((dElems d).map toInstr).map inC) ∧ ∀ y ∈ (dElems d).map toInstr, In64 y.op ∧ In64 y.a := by
  obtain ⟨m, nl, h1, h3, h2⟩ := ty_slice k Try.underlying30
  refine ⟨nl, h1, h3, rowF_elts h2 (fun x hx => (instr_of (h2 x hx)).1) (fun a => ⟨rfl, rfl⟩), fun y hy => ?_⟩
  obtain ⟨x, hx, rfl⟩ := List.mem_map.1 hy
  exact (instr_of (h2 x hx)).2
end
end Go.Ab
namespace Go.Proofs.Ytdpdlmjlahehoaa
open Go.ChangeShapes Go.WideShapes Go.ChangeAt Go.RowKit Go.Ab
section
variable {H : Type}
theorem bulk_pos' (d : DataW H) : 1 ≤ Rows.uptoBulk d := by
  cases d with
  | lit l => cases l <;> simp [Rows.uptoBulk]
  | _ => simp [Rows.uptoBulk]
theorem bulk_len' : ∀ (es : List (DataW H)), es.length ≤ Rows.uptoBulkAll es
  | [] => by simp [Rows.uptoBulkAll]
  | d :: r => by
    have h1 := bulk_pos' d
    have h2 := bulk_len' r
    simp only [Rows.uptoBulkAll, List.length_cons]
    omega
theorem elems_len' (d : DataW H) : (dElems d).length ≤ Rows.uptoBulk d := by
  cases d with
  | slice es sp => have := bulk_len' es; simp only [dElems, Rows.uptoBulk]; omega
  | _ => simp [dElems]
end
end Go.Proofs.Ytdpdlmjlahehoaa
namespace Go.Proofs.Ytdpdlmjlahehoaa
open Go.ChangeShapes Go.WideShapes Go.ChangeAt Go.RowKit Go.Ab
section
open Go.Ab
variable {H : Type} {n : Nat} {d : DataW H}
theorem pack_nl (d : DataW H) : ∀ xs, packE d (avs d) = .ro true xs → xs = [] := by
  intro xs h
  cases d with
  | lit l => cases l <;> cases h
  | nil => cases h; rfl
  | _ => cases h
end
theorem trimOnce_own : ownKnob Try.prog.godebug = none := by kernel_rfl
theorem plain30 : Plain Try.prog 10 30 = true := by kernel_rfl
set_option maxRecDepth 100000 in
theorem trimOnce_walk {H : Type} {enc : TypeId × Value → H} {W : World} {base : Nat} {v : Value} {d : DataW H} {ps : List MemPlace} (hval : Value.okWide Try.prog W .any base 30 v)
    (h : DataW.Trod enc Try.prog W 0 (fun _ => true) true 30 v d ps) (hb : Rows.uptoBulk d ≤ 1048576) :
    Calls Try.prog 5 #[v] W fun e w' => e = .returned (.bool true) ∧ Below W.heap.size W w' := by
  obtain ⟨fuel, hf⟩ := h
  have hr := read_ok (ρ := fun _ _ => none) fuel 30 _ _ hf 10 plain30
  obtain ⟨nl, -, e1, k1, -⟩ := code_of (h := .leaf) hr.1
  have hv := packE_vr hr hval
  rw [e1] at hv
  exact run_ok prog_mixed tt_ok prog_ng kt_ok (trimOnce_run zero_ok k1 (by rw [← e1]; exact pack_nl d) (by rw [List.length_map]; exact Nat.le_trans (elems_len' d) (by omega))) (CR.sole hv)
set_option maxRecDepth 100000 in
theorem trimOnce_contract (H : Type) (enc : TypeId × Value → H) (W : World) (base : Nat) (args : Array Value) (ds gs : List (DataW H)) (before : List MemPlace)
    (hval : ∀ (j : Nat) t v, Try.f5.params[j]? = some t → args[j]? = some v → Value.okWide Try.prog W .any base t v)
    (hW : DataW.Whole enc Try.prog Try.f5.params.toList Rows.trimOnceSpec.vars false W args.toList ds gs before) (hk : Rows.uptoSmall H (ds ++ gs) = true) :
    Calls Try.prog 5 args W fun e W' => ∃ v, e = .returned v ∧ Rows.trimOnceSpec.post enc Try.prog Try.f5 false true false false W args v W' := by
  have hW' := hW
  have hlt := hW.lt
  obtain ⟨p, q, hA0, hV, rfl, hfz, hnd⟩ := hW
  have hA : DataW.TrodAll enc Try.prog W 0 (fun _ => true) true Try.f5.params.toList args.toList ds p := hA0
  rw [Try.params5] at hA hval
  obtain ⟨v0, vs0, d0, ds0, p0, q0, hargs, rfl, rfl, h0, r0⟩ := trodAll_cons hA
  obtain ⟨rfl, rfl, rfl⟩ := trodAll_nil r0
  obtain rfl : args = #[v0] := by cases args; simp_all
  obtain ⟨rfl, rfl⟩ := trodVars_none hV
  clear hA0
  simp only [List.append_nil] at hW' hlt
  have hb := of_decide_eq_true hk
  simp only [List.append_nil, Rows.uptoBulkAll] at hb
  refine (trimOnce_walk (hval 0 30 v0 rfl rfl) h0 (by omega)).mono fun e W' ⟨he, bel⟩ => ?_
  subst he
  exact ⟨_, rfl, _, _, _, [], _, [], hW', trodAll_mk1 (shut_bool Try.underlying4 _), trodAll_cons_mk (Below.trod (by kernel_rfl) (by kernel_rfl) (of_decide_eq_true (by kernel_rfl)) h0 bel hlt) trodAll_mk0, rfl, bel.frame _, fun h => by cases h⟩
set_option maxRecDepth 100000 in
theorem trimOnce_lifted (os : Os) (started : os.Started) (H : Type) (enc : TypeId × Value → H) (F : Stop.Interp) :
    ReturnsInHanded {} Try.checked os 5 .any ((Rows.OpenSpec.upto Rows.trimOnceSpec).pre6 enc Try.prog Try.f5 Rows.trimOnceUptoRow.domain false) (((Rows.OpenSpec.upto Rows.trimOnceSpec).at F).post enc Try.prog Try.f5 false true false false) := by
  refine returnsInHanded_of_cond (C := Try.checked) (s := Rows.OpenSpec.upto Rows.trimOnceSpec) (k := Rows.uptoSmall) rfl trimOnce_own started (by kernel_rfl) Try.func5
    (OpenSpec.witness (enc := enc) (C := Try.checked) (s := Rows.OpenSpec.upto Rows.trimOnceSpec) (k := Rows.uptoSmall) rfl false ⟨#[], #[.slice none 0 0], []⟩ 8 (by kernel_rfl) (by kernel_rfl) (by kernel_rfl)
      (x := ([.nil], [], [])) (by kernel_rfl) rfl (by kernel_rfl)) ?_
  intro W base args ds gs before hval hW _ hk _
  exact trimOnce_contract H enc W base args ds gs before hval hW hk
theorem trimOnceUpto_holds : Rows.TrimOnceUptoSaid :=
  OpenClaim.holds_of_cond 5 Try.f5 rfl rfl rfl rfl rfl rfl rfl ⟨rfl, rfl, rfl, rfl, rfl⟩ rfl rfl rfl rfl rfl (by kernel_rfl) Try.func5 (by kernel_rfl)
    (of_decide_eq_true (by kernel_rfl)) (by unfold Func.isWrapper; first | (rw [if_pos (by decide +kernel)]; kernel_rfl) | (rw [if_neg (by decide +kernel)]; exact ⟨rfl, rfl⟩))
    (fun os started H enc _ F => trimOnce_lifted os started H enc F)
end Go.Proofs.Ytdpdlmjlahehoaa
