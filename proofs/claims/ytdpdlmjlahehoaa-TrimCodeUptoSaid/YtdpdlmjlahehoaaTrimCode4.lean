/- 'Rows.TrimCodeUptoSaid': whatever code and number come in (of bulk at most 1048576), the law returns true and they read as they did. -/
import Derived.Test.YtdpdlmjlahehoaaTrimCode3
import Derived.ChangeArms
import Derived.WideShapes
import Derived.Test.YtdpdlmjlahehoaaRows
import Derived.WalkKit
import Derived.ProofKit
import Derived.OpenShut
import Derived.JoinedCond
import Derived.Below
import Derived.Carry
/- A part of an element written. -/
namespace Go.Ab
theorem flat_setF {cs : List (List AV)} {sz : Nat} (h : ∀ c ∈ cs, c.length = sz) {i o : Nat} {x c : List AV} (hi : cs[i]? = some x) (hc : o + c.length ≤ sz) : over cs.flatten (i * sz + o) c = (cs.set i (over x o c)).flatten := by
  induction cs generalizing i with
  | nil => simp at hi
  | cons y cs ih =>
    have hy := h y (List.mem_cons_self ..)
    cases i with
    | zero =>
      simp at hi
      subst hi
      have := over_part [] y cs.flatten o c (by omega)
      simp only [List.nil_append, List.length_nil, Nat.zero_add] at this
      rw [Nat.zero_mul, Nat.zero_add, List.flatten_cons, this]
      rfl
    | succ i =>
      have h1 := ih (i := i) (fun z hz => h z (List.mem_cons_of_mem _ hz)) (by simpa using hi)
      unfold over at h1 ⊢
      rw [List.set_cons_succ, List.flatten_cons, List.flatten_cons]
      rw [← h1, Nat.succ_mul, show i * sz + sz + o = y.length + (i * sz + o) by omega]
      rw [List.take_length_add_append, Nat.add_assoc, List.drop_length_add_append]
      simp [List.append_assoc]
section
variable {P : Program} {T : Tab} {K : FuncId → Option Bool} {nt : Nat} {ops : Array Oper} {rest : List Oper} {m : Sy} {s s0 : St} {Q : Sy → St → Prop} {d ty : Nat} {pos : String} {af : Array Edge} {g : Option (Nat × Bool)} {L : List Chunk}
theorem ws_storeEF {tt : TypeId} {a x : Operand} {i : TI} {r u : AV} {j o sz : Nat} {cs : List (List AV)} {e : List AV} (n : Nat) (hS : SH s0 L s) (hn : L[n]? = some (rowC r sz cs)) (hg : guardY ops m g = some true) (ha : evY m a = some (fldA (elemA r j) o)) (hx : evY m x = some u) (hT : T tt = some i) (hl : u.cells.length = i.size) (ho : o + i.size ≤ sz)
    (hz : u.cells.all AV.leaf = true) (hj : cs[j]? = some e)
    (k : ∀ s', SH s0 (L.set n (rowC r sz (cs.set j (over e o u.cells)))) s' → W P T K nt ops rest m s' Q) : W P T K nt ops (⟨none, .store tt a x, ty, pos, af, g⟩ :: rest) m s Q := by
  have hr := hS.row n hn
  have hjl := (List.getElem?_eq_some_iff.1 hj).1
  have hne : r.gs ≠ [] := fun h => by
    have := hS.nls n hn h
    subst this
    cases (hr : cs = [])
    simp at hjl
  have hnl := hS.nls n hn
  cases r with
  | slc g' jj off sz' len lo ex =>
    obtain ⟨rfl, h2, rfl, h4, h5, rest', h6⟩ := id hr
    have hfl : cs.flatten.length = cs.length * sz' := flat_len fun c hc => (h5 c hc).1
    have hb : j * sz' + (o + u.cells.length) ≤ cs.length * sz' := by
      have h7 : (j + 1) * sz' ≤ cs.length * sz' := Nat.mul_le_mul_right _ hjl
      rw [Nat.succ_mul] at h7
      omega
    have hb2 := Nat.mul_le_mul_right sz' h4
    obtain ⟨s', e1, e2, e3, e4⟩ := write_over hS.ok h6 (k := j * sz' + o) (c := u.cells) (by omega) hz
    have hnl2 : ¬ (u.cells.length ≠ i.size) := fun h => h hl
    have hel : e.length = sz' := (h5 e (List.mem_of_getElem? hj)).1
    refine w_eff hg (s' := s') (fun t ht => ?_) (k s' (hS.upd n hn e3 (fun g hg => hg) _ ⟨⟨rfl, h2, by simp, h4, ?_, rest', ?_⟩, hnl⟩ fun g hg => .inl hg))
    · have ha' := evY_ok ht ha
      simp only [elemA, fldA, Nat.add_assoc] at ha'
      simp only [evOp, hT, ha', evY_ok ht hx, if_neg hnl2, e1]
    · intro c hc
      rcases List.mem_or_eq_of_mem_set hc with hc | rfl
      · exact h5 c hc
      · refine ⟨by rw [over_len (by omega)]; exact hel, ?_⟩
        have hle := (h5 e (List.mem_of_getElem? hj)).2
        unfold over
        rw [List.all_append, List.all_append]
        simp only [Bool.and_eq_true]
        rw [List.all_eq_true] at hle
        exact ⟨⟨List.all_eq_true.2 fun y hy => hle y (List.mem_of_mem_take hy), hz⟩, List.all_eq_true.2 fun y hy => hle y (List.mem_of_mem_drop hy)⟩
    · rw [e2, ← flat_setF (fun c hc => (h5 c hc).1) hj (by omega)]
      unfold over
      rw [List.take_append_of_le_length (by omega), List.drop_append_of_le_length (by omega)]
      simp [List.append_assoc]
  | nils => exact (hne rfl).elim
  | ro nl xs => exact (hne rfl).elim
  | _ => exact hr.elim
end
end Go.Ab
/- What trimming answers, plainly. -/
namespace Go.Ab
open Go.Proofs
/-- Where jumps go that are passed through. -/
noncomputable def tndI (l : List InstrL) (y : InstrL) : InstrL := if branchI y = true then ⟨y.op, comesF l y.a⟩ else y
noncomputable def tnd (l : List InstrL) : List InstrL := l.map (tndI l)
theorem tnd_len (l : List InstrL) : (tnd l).length = l.length := List.length_map ..
theorem tndI_op (l : List InstrL) (y : InstrL) : (tndI l y).op = y.op := by unfold tndI; split <;> rfl
theorem branchI_op {y z : InstrL} (h : y.op = z.op) : branchI y = branchI z := by unfold branchI; rw [h]
theorem branchI_iff {y : InstrL} : branchI y = true ↔ y.op = 43 ∨ y.op = 44 := by unfold branchI; simp
theorem tnd_in {l : List InstrL} (hr : rightC l = true) {y : InstrL} (hy : y ∈ tnd l) (hb : branchI y = true) : 0 ≤ y.a ∧ y.a < (l.length : Int) := by
  obtain ⟨z, hz, rfl⟩ := List.mem_map.1 hy
  rw [branchI_op (tndI_op l z)] at hb
  have h := rightC_jump hr hz (branchI_iff.1 hb)
  unfold tndI
  rw [if_pos hb]
  obtain ⟨a, ha⟩ : ∃ a : Nat, z.a = a := ⟨z.a.toNat, by omega⟩
  simp only [ha] at h ⊢
  have hal : a < l.length := by omega
  rw [comesF_yes hr hal]
  have := comesN_in hr hal
  omega
open Classical in
noncomputable def reaB (l : List InstrL) (k : Nat) : Bool := decide (RN (tnd l) 0 k)
open Classical in
theorem MkN.reaB {l : List InstrL} {L : List Bool} (h : MkN (tnd l) 0 L) {k : Nat} (hk : k < l.length + 1) : L[k]? = some (reaB l k) := by
  have hkl : k < L.length := by rw [h.1, tnd_len]; exact hk
  have h1 := h.2 k
  unfold Tk at h1
  rw [List.getElem?_eq_getElem hkl] at h1 ⊢
  simp only [Option.some.injEq] at h1 ⊢
  rw [Bool.eq_iff_iff, h1]
  unfold Go.Ab.reaB
  rw [decide_eq_true_iff]
open Classical in
noncomputable def tgtB (l : List InstrL) (k : Nat) : Bool := decide (∃ (j : Nat) (y : InstrL), (tnd l)[j]? = some y ∧ reaB l j = true ∧ branchI y = true ∧ y.a = (k : Int))
open Classical in
theorem tgt_iff {l : List InstrL} {k : Nat} : tgtB l k = true ↔ ∃ (j : Nat) (y : InstrL), (tnd l)[j]? = some y ∧ reaB l j = true ∧ branchI y = true ∧ y.a = (k : Int) := by
  unfold tgtB; rw [decide_eq_true_iff]
def isNop (l : List InstrL) (k : Nat) : Bool := match l[k]? with
  | some y => y.op == 42
  | none => false
noncomputable def stays (l : List InstrL) (k : Nat) : Bool := reaB l k && (!isNop l k || tgtB l k)
noncomputable def oldN (l : List InstrL) (n : Nat) : List Nat := (List.range n).filter (stays l)
noncomputable def place (l : List InstrL) (k : Nat) : Nat := (oldN l k).length
noncomputable def finI (l : List InstrL) (y : InstrL) : InstrL := if branchI y = true then ⟨y.op, (place l y.a.toNat : Nat)⟩ else y
noncomputable def codeO (l : List InstrL) : List InstrL := if rightC l = true then (oldN l l.length).map fun k => finI l ((tnd l)[k]?.getD ⟨0, 0⟩) else []
noncomputable def oldO (l : List InstrL) : List Int := if rightC l = true then tI (oldN l l.length) else []
theorem oldN_yes {l : List InstrL} {k : Nat} (h : stays l k = true) : oldN l (k + 1) = oldN l k ++ [k] := by
  unfold oldN; rw [List.range_succ, List.filter_append]; simp [h]
theorem oldN_no {l : List InstrL} {k : Nat} (h : stays l k = false) : oldN l (k + 1) = oldN l k := by
  unfold oldN; rw [List.range_succ, List.filter_append]; simp [h]
theorem oldN_len (l : List InstrL) (k : Nat) : (oldN l k).length ≤ k := by
  unfold oldN
  have := List.length_filter_le (stays l) (List.range k)
  rwa [List.length_range] at this
theorem oldN_mem {l : List InstrL} {n k : Nat} (h : k ∈ oldN l n) : k < n ∧ stays l k = true := by
  unfold oldN at h
  rw [List.mem_filter, List.mem_range] at h
  exact h
open Classical in
/-- An edge to a target that a reached branch has. -/
theorem tgt_reached {l : List InstrL} (hr : rightC l = true) {j : Nat} {y : InstrL} (hy : (tnd l)[j]? = some y) (hj : reaB l j = true) (hb : branchI y = true) {k : Nat} (hk : y.a = (k : Int)) : reaB l k = true := by
  have hin := tnd_in hr (List.mem_of_getElem? hy) hb
  unfold reaB at hj ⊢
  rw [decide_eq_true_iff] at hj ⊢
  refine .step hj ?_
  unfold EdN nextA
  rw [hy]
  show ((k : Nat) : Int) ∈ nextN _ _ _
  have hjl := (List.getElem?_eq_some_iff.1 hy).1
  have hl := tnd_len l
  rw [← next_same (by omega) (by omega) (by omega)]
  unfold nextD
  have hop := branchI_iff.1 hb
  rw [if_neg (by omega)]
  have hs : sec1 (tnd l).length j y = y.a := by unfold sec1; rw [if_pos hop, if_pos ⟨by omega, by omega⟩]
  rw [hs, ← hk]
  unfold outN
  split
  · rw [if_pos (show y.a < ((tnd l).length : Int) by omega)]; exact List.mem_append.2 (.inl (List.mem_singleton.2 rfl))
  · by_cases e : y.a = fst1 (tnd l).length j y
    · rw [← e, if_pos (show y.a < ((tnd l).length : Int) by omega)]; exact List.mem_append.2 (.inl (List.mem_singleton.2 rfl))
    · rw [if_pos (show y.a < ((tnd l).length : Int) ∧ y.a ≠ fst1 (tnd l).length j y from ⟨by omega, e⟩)]; exact List.mem_append.2 (.inr (List.mem_singleton.2 rfl))
theorem tgt_stays {l : List InstrL} (hr : rightC l = true) {k : Nat} (h : tgtB l k = true) : stays l k = true := by
  obtain ⟨j, y, h1, h2, h3, h4⟩ := tgt_iff.1 h
  unfold stays
  rw [tgt_reached hr h1 h2 h3 h4, h]
  simp
/-- A target's place among those that stay. -/
theorem place_get {l : List InstrL} {n k : Nat} (hk : k < n) (h : stays l k = true) : (oldN l n)[place l k]? = some k := by
  induction n with
  | zero => omega
  | succ n ih =>
    by_cases e : k = n
    · subst e
      rw [oldN_yes h]
      unfold place
      simp
    · have h1 := ih (by omega)
      have hlt := (List.getElem?_eq_some_iff.1 h1).1
      cases hs : stays l n with
      | true => rw [oldN_yes hs, List.getElem?_append_left hlt]; exact h1
      | false => rw [oldN_no hs]; exact h1
theorem oldN_inj {l : List InstrL} {n i j k : Nat} (hi : (oldN l n)[i]? = some k) (hj : (oldN l n)[j]? = some k) : i = j := by
  have hn : (oldN l n).Nodup := List.Pairwise.sublist (List.filter_sublist ..) List.nodup_range
  exact (List.getElem?_inj (List.getElem?_eq_some_iff.1 hi).1 hn).1 (hi.trans hj.symm)
end Go.Ab
/- trim.Code. -/
namespace Go.Ab
open Go.Proofs
theorem mix_len {l : List InstrL} {k : Nat} (hk : k ≤ l.length) : ((tnd l).take k ++ l.drop k).length = l.length := by
  rw [List.length_append, List.length_take, List.length_drop, tnd_len]; omega
theorem mix_get {l : List InstrL} {k : Nat} {y : InstrL} (hy : l[k]? = some y) : ((tnd l).take k ++ l.drop k)[k]? = some y := by
  have hk := (List.getElem?_eq_some_iff.1 hy).1
  have hl : ((tnd l).take k).length = k := by rw [List.length_take, tnd_len]; omega
  rw [List.getElem?_append_right (by omega), hl, Nat.sub_self, List.getElem?_drop, Nat.add_zero]
  exact hy
theorem tnd_get {l : List InstrL} {k : Nat} {y : InstrL} (hy : l[k]? = some y) : (tnd l)[k]? = some (tndI l y) := by
  unfold tnd; rw [List.getElem?_map, hy]; rfl
theorem mix_step {l : List InstrL} {k : Nat} {y : InstrL} (hy : l[k]? = some y) : ((tnd l).take k ++ l.drop k).set k (tndI l y) = (tnd l).take (k + 1) ++ l.drop (k + 1) := by
  have hk := (List.getElem?_eq_some_iff.1 hy).1
  have hl : ((tnd l).take k).length = k := by rw [List.length_take, tnd_len]; omega
  rw [List.set_append_right _ _ (by omega), hl, Nat.sub_self, ← take_snoc (tnd_get hy), List.append_assoc]
  congr 1
  have : l.drop k = y :: l.drop (k + 1) := by
    rw [List.drop_eq_getElem_cons hk]
    rw [(List.getElem?_eq_some_iff.1 hy).2]
  rw [this]; rfl
theorem set_same {β : Type} {xs : List β} {k : Nat} {x : β} (h : xs[k]? = some x) : xs.set k x = xs := by
  refine List.ext_getElem? fun i => ?_
  rw [List.getElem?_set]
  by_cases e : k = i
  · subst e
    rw [if_pos rfl, if_pos (List.getElem?_eq_some_iff.1 h).1, h]
  · rw [if_neg e]
theorem build48 {m : Sy} {a : AV} {x : Operand} (ha : a.leaf = true) (hx : evY m x = some a := by rfl) : pureY Tt m (.build 48 #[(5, x)]) = some (.agg [.int .u64 0, .nils, .nils, .int .i64 0, .int .i64 0, a]) := by
  simp only [pureY]
  rw [show Tt 48 = some ⟨.struct [(0, 1, false), (1, 1, false), (2, 1, false), (3, 1, false), (4, 1, false), (5, 1, false)], 6, 96, [.int .u64 0, .nils, .nils, .int .i64 0, .int .i64 0, .nils], false⟩ from rfl]
  simp only [evPartsY, hx, fillA, AV.cells_leaf ha]
  rfl
theorem rep_iC (n : Nat) : List.replicate n [AV.int .i64 0] = (List.replicate n (0 : Int)).map iC := by simp [iC]
theorem rep_inC (n : Nat) : List.replicate n [AV.int .i64 0, AV.int .i64 0] = (List.replicate n (⟨0, 0⟩ : InstrL)).map inC := by simp [inC]
noncomputable def codeL (l : List InstrL) : List InstrL := (oldN l l.length).map fun k => finI l ((tnd l)[k]?.getD ⟨0, 0⟩)
theorem isNop_get {l : List InstrL} {k : Nat} {y : InstrL} (hy : (tnd l)[k]? = some y) : isNop l k = (y.op == 42) := by
  unfold tnd at hy
  rw [List.getElem?_map] at hy
  cases e : l[k]? with
  | none => rw [e] at hy; cases hy
  | some z =>
    rw [e] at hy
    cases hy
    unfold isNop
    rw [e, tndI_op]
set_option maxRecDepth 10000 in
set_option maxHeartbeats 8000000 in
theorem branch_ok {s : St} {y : InstrL} (hok : s.Ok) : CallS Try.prog Tt Kt 56 [.agg (inC y)] s (fun r s' => Keep [] s s' ∧ r = .bool (branchI y)) := by
  refine call_of (fn := Try.f56) (nt := 11) Try.func56 rfl rfl rfl ?_
  repeat refine wc_seq ?_
  have hS := SH.start hok
  refine wc_region ?_
  refine ws_box hS rfl rfl rfl (by rfl) ?_
  rintro p0 z hS hk
  have hS : SH _ [_] z := hS
  have hK := hS.K
  refine w_val rfl rfl (op_pure rfl) ?_
  refine w_nil ?_
  refine then_n ?_
  repeat refine wc_seq ?_
  refine wc_region ?_
  refine w_val rfl rfl (op_fldP rfl rfl rfl rfl (by decide)) ?_
  refine w_val rfl rfl (op_loadC 0 hS rfl rfl rfl (Nat.le_of_ble_eq_true rfl) rfl) ?_
  refine w_val rfl rfl (op_pure rfl) ?_
  refine w_val rfl rfl (op_pure rfl) ?_
  refine w_split (i := 6) rfl (fun h6 => ?_) (fun h6 => ?_)
  · simp only [beq_iff_eq] at h6
    refine w_off rfl rfl ?_
    refine w_off rfl rfl ?_
    refine w_off rfl rfl ?_
    refine w_val rfl rfl (op_pure rfl) ?_
    refine w_val rfl rfl (op_pure rfl) ?_
    refine w_nil ?_
    refine then_n ?_
    refine wc_ret ?_
    repeat first | refine then_r ?_ | refine out_r ?_ | refine round_r ?_ | refine cut_r ?_ | refine sc_r ?_
    exact ⟨_, rfl, hK, by simp [branchI, packA, h6]⟩
  simp only [beq_eq_false_iff_ne, ne_eq] at h6
  refine w_val rfl rfl (op_fldP rfl rfl rfl rfl (by decide)) ?_
  refine w_val rfl rfl (op_loadC 0 hS rfl rfl rfl (Nat.le_of_ble_eq_true rfl) rfl) ?_
  refine w_val rfl rfl (op_pure rfl) ?_
  refine w_val rfl rfl (op_pure rfl) ?_
  refine w_val rfl rfl (op_pure rfl) ?_
  refine w_nil ?_
  refine then_n ?_
  refine wc_ret ?_
  repeat first | refine then_r ?_ | refine out_r ?_ | refine round_r ?_ | refine cut_r ?_ | refine sc_r ?_
  exact ⟨_, rfl, hK, by simp [branchI, packA, h6]⟩
set_option maxRecDepth 10000 in
set_option maxHeartbeats 8000000 in
theorem trimCode_ok {s : St} {v : AV} {l : List InstrL} (hok : s.Ok) (hv : Row s.h 2 v (l.map inC)) (hg : v.gs ≠ []) (hl : l.length ≤ 2097152) :
    CallS Try.prog Tt Kt 18 [v] s (fun r s' => Keep [] s s' ∧ ∃ x o, r = .tup [x, o] ∧ Row s'.h 2 x ((codeO l).map inC) ∧ Row s'.h 1 o ((oldO l).map iC) ∧ (∀ g ∈ x.gs, s.ctr ≤ g) ∧ (∀ g ∈ o.gs, s.ctr ≤ g) ∧ Dis x o ∧ (x.gs = [] → x = .nils) ∧ (o.gs = [] → o = .nils)) := by
  refine call_of (fn := Try.f18) (nt := 137) Try.func18 rfl rfl rfl ?_
  repeat refine wc_seq ?_
  have hS := SH.start hok
  have hK := hS.K
  refine wc_region ?_
  refine w_val rfl rfl (op_pure rfl) ?_
  refine w_val rfl rfl (op_pure rfl) ?_
  refine w_nil ?_
  refine then_n ?_
  repeat refine wc_seq ?_
  refine wc_region ?_
  refine w_val rfl rfl (op_pure rfl) ?_
  refine w_call rfl rfl (op_call rfl rfl rfl rfl) (right_code_ok hK.ok hv hl) ?_
  rintro _ z ⟨hk, rfl⟩
  have hS := hS.mov hk
  have hK := hS.K
  refine w_val rfl rfl (op_pure rfl) ?_
  refine w_nil ?_
  refine then_n ?_
  repeat refine wc_seq ?_
  refine wc_condT rfl (fun h22 => ?_) (fun h22 => ?_)
  · simp only [Bool.not_eq_true'] at h22
    repeat refine wc_seq ?_
    refine wc_region ?_
    refine w_val rfl rfl (op_pure rfl) ?_
    refine w_val rfl rfl (op_pure rfl) ?_
    refine w_nil ?_
    refine then_n ?_
    refine wc_ret ?_
    repeat first | refine then_r ?_ | refine out_r ?_ | refine round_r ?_ | refine cut_r ?_ | refine sc_r ?_
    exact ⟨_, rfl, hK, .nils, .nils, rfl, by unfold codeO; rw [if_neg (by rw [h22]; decide)]; exact row_nils _ _, by unfold oldO; rw [if_neg (by rw [h22]; decide)]; exact row_nils _ _, (fun g hg => by cases hg), (fun g hg => by cases hg), (fun g hg => by cases hg), fun _ => rfl, fun _ => rfl⟩
  simp only [Bool.not_eq_false'] at h22
  refine wc_skip ?_
  refine then_n ?_
  repeat refine wc_seq ?_
  refine wc_region ?_
  refine w_val rfl rfl (op_pure rfl) ?_
  refine w_call rfl rfl (op_call rfl rfl rfl rfl) (cloneCode_ok hK.ok (by rw [List.length_map]; omega) (hv.keep0 hK) hg) ?_
  rintro ov z1 ⟨hk, hr, hb, hn⟩
  have hS := hS.add hk (rowC ov 2 (((tnd l).take 0 ++ l.drop 0).map inC)) ⟨hr, fun e => (hn e).elim⟩ (fun g hg => ⟨hb g hg, hr.lt hk.ok g hg⟩)
  have hS : SH _ [_] z1 := hS
  have hK := hS.K
  have hR := h22
  clear hr hb hn
  refine w_val rfl rfl (op_pure rfl) ?_
  refine w_nil ?_
  refine then_n ?_
  repeat refine wc_seq ?_
  refine wc_region ?_
  refine w_val rfl rfl (op_pure rfl) ?_
  refine w_nil ?_
  refine then_n ?_
  repeat refine wc_seq ?_
  refine wc_region ?_
  refine w_val rfl rfl (op_pure rfl) ?_
  refine w_val rfl rfl (op_len rfl rfl rfl rfl rfl ((hS.row 0 rfl).slenF.trans (congrArg some (mix_len (Nat.zero_le _))))) ?_
  refine w_val rfl rfl (op_pure rfl) ?_
  refine w_nil ?_
  refine then_n ?_
  repeat refine wc_seq ?_
  refine wc_block ?_
  refine wc_loop_at (fun jj m z => ∃ k : Nat, jj = l.length - k ∧ k ≤ l.length ∧ m = [(0, v), (4, ov), (5, .fn 56 []), (25, ov), (26, .int .i64 (l.length : Nat)), (27, .int .i64 (k : Nat))] ∧ SH s [rowC ov 2 (((tnd l).take k ++ l.drop k).map inC)] z) l.length
    [(0, v), (4, ov), (5, .fn 56 []), (25, ov), (26, .int .i64 (l.length : Nat)), (27, .int .i64 ((0 : Nat) : Int))] (Sub.cons rfl (Sub.cons rfl (Sub.cons rfl (Sub.cons rfl (Sub.cons rfl (Sub.cons rfl (Sub.nil _))))))) ⟨0, by simp, by simp, rfl, hS⟩ ?_
  clear hS hK
  rintro jj m z ⟨k, rfl, hk, rfl, hS⟩
  have hK := hS.K
  have hml := mix_len hk
  repeat refine wc_seq ?_
  refine wc_region ?_
  refine w_val rfl rfl (op_pure rfl) ?_
  refine w_nil ?_
  refine then_n ?_
  repeat refine wc_seq ?_
  refine wc_condT rfl (fun h28 => ?_) (fun h28 => ?_)
  · simp only [decide_eq_true_eq] at h28
    refine wc_skip ?_
    refine then_n ?_
    repeat refine wc_seq ?_
    refine wc_block ?_
    repeat refine wc_seq ?_
    obtain ⟨y, hy⟩ : ∃ y, l[k]? = some y := ⟨_, List.getElem?_eq_getElem (by omega)⟩
    have hmid := mix_get hy
    refine wc_region ?_
    refine w_val rfl rfl (op_pure rfl) ?_
    refine w_val rfl rfl (op_idxF rfl rfl (natA_cast _ _) rfl rfl rfl rfl (hS.row 0 rfl) (by omega)) ?_
    refine w_val rfl rfl (op_load rfl rfl (Row.mk_pt (hS.row 0 rfl) (by assumption)) rfl) ?_
    refine ws_alloc hS rfl rfl rfl rfl ?_
    rintro p1 z hS hk
    have hS : SH _ [_, _] z := hS
    have hK := hS.K
    refine w_val rfl rfl (op_pure rfl) ?_
    refine ws_store 1 hS rfl rfl rfl rfl rfl rfl (by rfl) (Nat.le_of_ble_eq_true rfl) ?_
    rintro z hS
    have hS : SH _ [_, _] z := hS
    have hK := hS.K
    refine w_nil ?_
    refine then_n ?_
    repeat refine wc_seq ?_
    refine wc_region ?_
    refine w_val rfl rfl (op_pure rfl) ?_
    refine w_val rfl rfl (op_loadC 1 hS rfl rfl rfl (Nat.le_of_ble_eq_true rfl) rfl) ?_
    refine w_call rfl rfl (op_call rfl rfl rfl rfl) (branch_ok hK.ok) ?_
    rintro _ z ⟨hk2, rfl⟩
    have hS := hS.mov hk2
    have hK := hS.K
    refine w_nil ?_
    refine then_n ?_
    refine wc_condT rfl (fun h34 => ?_) (fun h34 => ?_)
    · obtain ⟨hy0, hyn⟩ := rightC_jump hR (List.mem_of_getElem? hy) (branchI_iff.1 h34)
      obtain ⟨yo, ya⟩ := y
      obtain ⟨a, ha⟩ : ∃ a : Nat, ya = a := ⟨ya.toNat, by simp only at hy0; omega⟩
      subst ha
      have hal : a < l.length := by simp only at hyn; omega
      have hti : tndI l ⟨yo, (a : Int)⟩ = ⟨yo, (comesN l a : Int)⟩ := by unfold tndI; rw [if_pos h34]; simp only; rw [comesF_yes hR hal]
      refine wc_region ?_
      refine w_val rfl rfl (op_pure rfl) ?_
      refine w_val rfl rfl (op_pure rfl) ?_
      refine w_val rfl rfl (op_pure rfl) ?_
      refine w_val rfl rfl (op_fldP rfl rfl rfl rfl (by decide)) ?_
      refine w_val rfl rfl (op_loadC 1 hS rfl rfl rfl (Nat.le_of_ble_eq_true rfl) rfl) ?_
      refine w_call rfl rfl (op_call rfl rfl rfl rfl) (comes_ok hK.ok (hv.keep0 hK) hl hR hal) ?_
      rintro _ z ⟨hk3, rfl⟩
      have hS := hS.mov hk3
      have hK := hS.K
      refine w_val rfl rfl (op_idxF rfl rfl (natA_cast _ _) rfl rfl rfl rfl (hS.row 0 rfl) (by omega)) ?_
      refine w_val rfl rfl (op_fld rfl rfl rfl rfl (by decide) (Row.mk_pt (hS.row 0 rfl) hmid) (Nat.le_of_ble_eq_true rfl)) ?_
      refine ws_storeEF 0 hS rfl rfl rfl rfl rfl rfl (by decide) rfl (by rw [List.getElem?_map, hmid]; rfl) ?_
      rintro z hS
      have hS : SH s [rowC ov 2 (((tnd l).take (k + 1) ++ l.drop (k + 1)).map inC)] z := by
        rw [← mix_step hy, hti, List.map_set]
        exact hS.sel [0] rfl (by decide)
      refine w_nil ?_
      refine out_n ?_
      refine then_n ?_
      refine wc_region ?_
      refine w_val rfl rfl (op_add rfl rfl (by unfold In64; omega)) ?_
      refine w_val rfl rfl (op_pure rfl) ?_
      refine w_nil ?_
      exact round_n _ _ (by omega) (Sub.cons rfl (Sub.cons rfl (Sub.cons rfl (Sub.cons rfl (Sub.cons rfl (Sub.cons rfl (Sub.nil _))))))) ⟨k + 1, rfl, by omega, rfl, hS⟩
    skip
    refine wc_skip ?_
    refine out_n ?_
    refine then_n ?_
    refine wc_region ?_
    refine w_val rfl rfl (op_add rfl rfl (by unfold In64; omega)) ?_
    refine w_val rfl rfl (op_pure rfl) ?_
    refine w_nil ?_
    have hS : SH s [rowC ov 2 (((tnd l).take (k + 1) ++ l.drop (k + 1)).map inC)] z := by
      rw [← mix_step hy, show tndI l y = y by unfold tndI; rw [if_neg (by rw [h34]; decide)], set_same hmid]
      exact hS.sel [0] rfl (by decide)
    exact round_n _ _ (by omega) (Sub.cons rfl (Sub.cons rfl (Sub.cons rfl (Sub.cons rfl (Sub.cons rfl (Sub.cons rfl (Sub.nil _))))))) ⟨k + 1, rfl, by omega, rfl, hS⟩
  simp only [decide_eq_false_iff_not] at h28
  obtain rfl : k = l.length := by omega
  rw [List.drop_length, List.append_nil, List.take_of_length_le (by rw [tnd_len]; exact Nat.le_refl _)] at hS
  have htl := tnd_len l
  clear hml
  refine wc_exit ?_
  repeat first | refine then_x ?_ | refine round_x ?_ | refine cut_x ?_ | refine out_x' (by decide) ?_
  refine out_x ?_
  refine then_n ?_
  repeat refine wc_seq ?_
  refine wc_region ?_
  refine w_val rfl rfl (op_pure rfl) ?_
  refine w_val rfl rfl (op_pure (build48 (hS.row 0 rfl).leaf)) ?_
  refine w_call rfl rfl (op_call rfl rfl rfl rfl) (reach_ok hK.ok (hS.row 0 rfl) (by omega) (by simp only [List.all_cons, List.all_nil, (hS.row 0 rfl).leaf]; rfl)) ?_
  rintro rv z1 ⟨hk, L, hM, hr, hb, hn⟩
  have hS := hS.add hk (rowC rv 1 (L.map bC)) ⟨hr, hn⟩ (fun g hg => ⟨hb g hg, hr.lt hk.ok g hg⟩)
  have hS : SH _ [_, _] z1 := hS
  have hK := hS.K
  have hLl : L.length = l.length + 1 := by rw [hM.1, tnd_len]
  clear hr hb hn
  refine w_val rfl rfl (op_pure rfl) ?_
  refine w_nil ?_
  refine then_n ?_
  repeat refine wc_seq ?_
  refine wc_region ?_
  refine w_val rfl rfl (op_pure rfl) ?_
  refine w_val rfl rfl (op_len rfl rfl rfl rfl rfl ((hS.row 0 rfl).slenF.trans (congrArg some htl))) ?_
  refine ws_mk hS rfl rfl rfl rfl rfl rfl rfl rfl rfl (by decide) rfl (by simp only [maxBytes]; omega) (by omega) ?_
  rintro tv z hS hne hk
  have hS : SH s [rowC ov 2 ((tnd l).map inC), rowC rv 1 (L.map bC), rowC tv 1 ((List.replicate l.length false).map bC)] z := by rw [← rep_bC]; exact hS
  have hK := hS.K
  refine w_val rfl rfl (op_pure rfl) ?_
  refine w_nil ?_
  refine then_n ?_
  repeat refine wc_seq ?_
  refine wc_region ?_
  refine w_val rfl rfl (op_pure rfl) ?_
  refine w_val rfl rfl (op_len rfl rfl rfl rfl rfl ((hS.row 0 rfl).slenF.trans (congrArg some htl))) ?_
  refine w_val rfl rfl (op_pure rfl) ?_
  refine w_nil ?_
  refine then_n ?_
  repeat refine wc_seq ?_
  refine wc_block ?_
  refine wc_loop_at (fun jj m z => ∃ (k : Nat) (TT : List Bool), jj = l.length - k ∧ k ≤ l.length ∧ m = [(4, ov), (5, .fn 56 []), (8, rv), (9, tv), (50, ov), (51, .int .i64 (l.length : Nat)), (52, .int .i64 (k : Nat))] ∧ SH s [rowC ov 2 ((tnd l).map inC), rowC rv 1 (L.map bC), rowC tv 1 (TT.map bC)] z ∧ TT.length = l.length ∧ ∀ c, Tk TT c ↔ ∃ (j : Nat) (y : InstrL), j < k ∧ (tnd l)[j]? = some y ∧ reaB l j = true ∧ branchI y = true ∧ y.a = (c : Int)) l.length
    [(4, ov), (5, .fn 56 []), (8, rv), (9, tv), (50, ov), (51, .int .i64 (l.length : Nat)), (52, .int .i64 ((0 : Nat) : Int))] (Sub.cons rfl (Sub.cons rfl (Sub.cons rfl (Sub.cons rfl (Sub.cons rfl (Sub.cons rfl (Sub.cons rfl (Sub.nil _)))))))) ⟨0, _, by simp, by simp, rfl, hS, by simp, fun c => ⟨fun h => (rep_noTk h).elim, fun ⟨j, y, h, _⟩ => by omega⟩⟩ ?_
  clear hS hK
  rintro jj m z ⟨k, TT, rfl, hk, rfl, hS, hTl, hT⟩
  have hK := hS.K
  repeat refine wc_seq ?_
  refine wc_region ?_
  refine w_val rfl rfl (op_pure rfl) ?_
  refine w_nil ?_
  refine then_n ?_
  repeat refine wc_seq ?_
  refine wc_condT rfl (fun h53 => ?_) (fun h53 => ?_)
  · simp only [decide_eq_true_eq] at h53
    refine wc_skip ?_
    refine then_n ?_
    repeat refine wc_seq ?_
    refine wc_block ?_
    repeat refine wc_seq ?_
    obtain ⟨y, hy⟩ : ∃ y, (tnd l)[k]? = some y := ⟨_, List.getElem?_eq_getElem (by rw [tnd_len]; omega)⟩
    have hLk := hM.reaB (k := k) (by omega)
    refine wc_region ?_
    refine w_val rfl rfl (op_pure rfl) ?_
    refine w_val rfl rfl (op_idxF rfl rfl (natA_cast _ _) rfl rfl rfl rfl (hS.row 0 rfl) (by omega)) ?_
    refine w_val rfl rfl (op_load rfl rfl (Row.mk_pt (hS.row 0 rfl) (by assumption)) rfl) ?_
    refine ws_alloc hS rfl rfl rfl rfl ?_
    rintro p3 z hS hk
    have hS : SH _ [_, _, _, _] z := hS
    have hK := hS.K
    refine w_val rfl rfl (op_pure rfl) ?_
    refine ws_store 3 hS rfl rfl rfl rfl rfl rfl (by rfl) (Nat.le_of_ble_eq_true rfl) ?_
    rintro z hS
    have hS : SH _ [_, _, _, _] z := hS
    have hK := hS.K
    refine w_nil ?_
    refine then_n ?_
    repeat refine wc_seq ?_
    refine wc_region ?_
    refine w_val rfl rfl (op_pure rfl) ?_
    refine w_val rfl rfl (op_pure rfl) ?_
    refine w_val rfl rfl (op_idxF rfl rfl (natA_cast _ _) rfl rfl rfl rfl (hS.row 1 rfl) (by omega)) ?_
    refine w_val rfl rfl (op_load rfl rfl (Row.mk_pt (hS.row 1 rfl) (by assumption)) rfl) ?_
    refine w_val rfl rfl (op_pure rfl) ?_
    refine w_split (i := 61) rfl (fun h61 => ?_) (fun h61 => ?_)
    · skip
      refine w_val rfl rfl (op_pure rfl) ?_
      refine w_val rfl rfl (op_loadC 3 hS rfl rfl rfl (Nat.le_of_ble_eq_true rfl) rfl) ?_
      refine w_call rfl rfl (op_call rfl rfl rfl rfl) (branch_ok hK.ok) ?_
      rintro _ z ⟨hk2, rfl⟩
      have hS := hS.mov hk2
      have hK := hS.K
      refine w_val rfl rfl (op_pure rfl) ?_
      refine w_nil ?_
      refine then_n ?_
      refine wc_condT rfl (fun h65 => ?_) (fun h65 => ?_)
      · obtain ⟨hy0, hyn⟩ := tnd_in hR (List.mem_of_getElem? hy) h65
        obtain ⟨yo, ya⟩ := y
        obtain ⟨b, hb⟩ : ∃ b : Nat, ya = b := ⟨ya.toNat, by simp only at hy0; omega⟩
        subst hb
        have hbl : b < l.length := by simp only at hyn; omega
        refine wc_region ?_
        refine w_val rfl rfl (op_pure rfl) ?_
        refine w_val rfl rfl (op_fldP rfl rfl rfl rfl (by decide)) ?_
        refine w_val rfl rfl (op_loadC 3 hS rfl rfl rfl (Nat.le_of_ble_eq_true rfl) rfl) ?_
        refine w_val rfl rfl (op_idxF rfl rfl (natA_cast _ _) rfl rfl rfl rfl (hS.row 2 rfl) (by omega)) ?_
        refine ws_storeE 2 hS rfl rfl rfl rfl rfl rfl rfl (by rfl) (by (simp; omega)) ?_
        rintro z hS
        have hS : SH _ [_, _, _, _] z := hS
        have hK := hS.K
        refine w_nil ?_
        refine out_n ?_
        refine then_n ?_
        refine wc_region ?_
        refine w_val rfl rfl (op_add rfl rfl (by unfold In64; omega)) ?_
        refine w_val rfl rfl (op_pure rfl) ?_
        refine w_nil ?_
        have hS : SH s [rowC ov 2 ((tnd l).map inC), rowC rv 1 (L.map bC), rowC tv 1 ((TT.set b true).map bC)] z := by rw [List.map_set]; exact hS.sel [0, 1, 2] rfl (by decide)
        exact round_n _ _ (by omega) (Sub.cons rfl (Sub.cons rfl (Sub.cons rfl (Sub.cons rfl (Sub.cons rfl (Sub.cons rfl (Sub.cons rfl (Sub.nil _)))))))) ⟨k + 1, TT.set b true, rfl, by omega, rfl, hS, by rw [List.length_set]; exact hTl, fun c => by
          rw [Tk_set (by omega), hT]
          constructor
          · rintro (rfl | ⟨j, y, h1, h2⟩)
            · exact ⟨k, _, by omega, hy, h61, h65, rfl⟩
            · exact ⟨j, y, by omega, h2⟩
          · rintro ⟨j, y, h1, h2, h3, h4, h5⟩
            rcases Nat.lt_succ_iff_lt_or_eq.1 h1 with h1 | rfl
            · exact .inr ⟨j, y, h1, h2, h3, h4, h5⟩
            · rw [hy] at h2; cases h2
              have h5 : (b : Int) = (c : Int) := h5
              exact .inl (by omega)⟩
      skip
      refine wc_skip ?_
      refine out_n ?_
      refine then_n ?_
      refine wc_region ?_
      refine w_val rfl rfl (op_add rfl rfl (by unfold In64; omega)) ?_
      refine w_val rfl rfl (op_pure rfl) ?_
      refine w_nil ?_
      exact round_n _ _ (by omega) (Sub.cons rfl (Sub.cons rfl (Sub.cons rfl (Sub.cons rfl (Sub.cons rfl (Sub.cons rfl (Sub.cons rfl (Sub.nil _)))))))) ⟨k + 1, TT, rfl, by omega, rfl, hS.sel [0, 1, 2] rfl (by decide), hTl, fun c => by
        rw [hT]
        constructor
        · rintro ⟨j, y, h1, h2⟩
          exact ⟨j, y, by omega, h2⟩
        · rintro ⟨j, y, h1, h2, h3, h4, h5⟩
          rcases Nat.lt_succ_iff_lt_or_eq.1 h1 with h1 | rfl
          · exact ⟨j, y, h1, h2, h3, h4, h5⟩
          · rw [hy] at h2; cases h2; rw [h65] at h4; cases h4⟩
    skip
    refine w_off rfl rfl ?_
    refine w_off rfl rfl ?_
    refine w_off rfl rfl ?_
    refine w_val rfl rfl (op_pure rfl) ?_
    refine w_nil ?_
    refine then_n ?_
    refine wc_cond_f rfl ?_
    refine wc_skip ?_
    refine out_n ?_
    refine then_n ?_
    refine wc_region ?_
    refine w_val rfl rfl (op_add rfl rfl (by unfold In64; omega)) ?_
    refine w_val rfl rfl (op_pure rfl) ?_
    refine w_nil ?_
    exact round_n _ _ (by omega) (Sub.cons rfl (Sub.cons rfl (Sub.cons rfl (Sub.cons rfl (Sub.cons rfl (Sub.cons rfl (Sub.cons rfl (Sub.nil _)))))))) ⟨k + 1, TT, rfl, by omega, rfl, hS.sel [0, 1, 2] rfl (by decide), hTl, fun c => by
      rw [hT]
      constructor
      · rintro ⟨j, y, h1, h2⟩
        exact ⟨j, y, by omega, h2⟩
      · rintro ⟨j, y, h1, h2, h3, h4, h5⟩
        rcases Nat.lt_succ_iff_lt_or_eq.1 h1 with h1 | rfl
        · exact ⟨j, y, h1, h2, h3, h4, h5⟩
        · rw [h61] at h3; cases h3⟩
  simp only [decide_eq_false_iff_not] at h53
  obtain rfl : k = l.length := by omega
  have hTG : ∀ c, c < l.length → TT[c]? = some (tgtB l c) := fun c hc => by
    obtain ⟨b, hb⟩ : ∃ b, TT[c]? = some b := ⟨_, List.getElem?_eq_getElem (by omega)⟩
    rw [hb]
    congr 1
    rw [Bool.eq_iff_iff, tgt_iff]
    have := hT c
    unfold Tk at this
    rw [hb] at this
    constructor
    · intro e
      subst e
      obtain ⟨j, y, h1, h2⟩ := this.1 rfl
      exact ⟨j, y, h2⟩
    · rintro ⟨j, y, h1, h2⟩
      exact Option.some.inj (this.2 ⟨j, y, by have := (List.getElem?_eq_some_iff.1 h1).1; rw [tnd_len] at this; exact this, h1, h2⟩)
  refine wc_exit ?_
  repeat first | refine then_x ?_ | refine round_x ?_ | refine cut_x ?_ | refine out_x' (by decide) ?_
  refine out_x ?_
  refine then_n ?_
  repeat refine wc_seq ?_
  refine wc_region ?_
  refine w_val rfl rfl (op_pure rfl) ?_
  refine w_val rfl rfl (op_len rfl rfl rfl rfl rfl ((hS.row 0 rfl).slenF.trans (congrArg some htl))) ?_
  refine ws_mk hS rfl rfl rfl rfl rfl rfl rfl rfl rfl (by decide) rfl (by simp only [maxBytes]; omega) (by omega) ?_
  rintro pv z hS hne hk
  have hS : SH s [rowC ov 2 ((tnd l).map inC), rowC rv 1 (L.map bC), rowC tv 1 (TT.map bC), rowC pv 1 ((List.replicate l.length (0 : Int)).map iC)] z := by rw [← rep_iC]; exact hS
  have hK := hS.K
  refine w_val rfl rfl (op_pure rfl) ?_
  refine w_nil ?_
  refine then_n ?_
  repeat refine wc_seq ?_
  refine wc_region ?_
  refine w_val rfl rfl (op_pure rfl) ?_
  refine w_nil ?_
  refine then_n ?_
  repeat refine wc_seq ?_
  have hS : SH s [rowC ov 2 ((tnd l).map inC), rowC rv 1 (L.map bC), rowC tv 1 (TT.map bC), rowC pv 1 ((List.replicate l.length (0 : Int)).map iC), rowC .nils 1 ((tI (oldN l 0)).map iC)] z := hS.nil 1
  refine wc_region ?_
  refine w_val rfl rfl (op_pure rfl) ?_
  refine w_val rfl rfl (op_len rfl rfl rfl rfl rfl ((hS.row 0 rfl).slenF.trans (congrArg some htl))) ?_
  refine w_val rfl rfl (op_pure rfl) ?_
  refine w_nil ?_
  refine then_n ?_
  repeat refine wc_seq ?_
  refine wc_block ?_
  refine wc_loop_at (fun jj m z => ∃ (k : Nat) (Pl : List Int) (o : AV), jj = l.length - k ∧ k ≤ l.length ∧ m = [(4, ov), (5, .fn 56 []), (8, rv), (9, tv), (12, pv), (13, o), (74, ov), (75, .int .i64 (l.length : Nat)), (76, .int .i64 (k : Nat))] ∧ SH s [rowC ov 2 ((tnd l).map inC), rowC rv 1 (L.map bC), rowC tv 1 (TT.map bC), rowC pv 1 (Pl.map iC), rowC o 1 ((tI (oldN l k)).map iC)] z ∧ Pl.length = l.length ∧ ∀ c, c < k → Pl[c]? = some (place l c : Int)) l.length
    [(4, ov), (5, .fn 56 []), (8, rv), (9, tv), (12, pv), (13, .nils), (74, ov), (75, .int .i64 (l.length : Nat)), (76, .int .i64 ((0 : Nat) : Int))] (Sub.cons rfl (Sub.cons rfl (Sub.cons rfl (Sub.cons rfl (Sub.cons rfl (Sub.cons rfl (Sub.cons rfl (Sub.cons rfl (Sub.cons rfl (Sub.nil _)))))))))) ⟨0, _, .nils, by simp, by simp, rfl, hS, by simp, fun c h => by omega⟩ ?_
  clear hS hK
  rintro jj m z ⟨k, Pl, o, rfl, hk, rfl, hS, hPl, hP⟩
  have hK := hS.K
  have hol := oldN_len l k
  have hotl := tI_len (oldN l k)
  repeat refine wc_seq ?_
  refine wc_region ?_
  refine w_val rfl rfl (op_pure rfl) ?_
  refine w_nil ?_
  refine then_n ?_
  repeat refine wc_seq ?_
  refine wc_condT rfl (fun h77 => ?_) (fun h77 => ?_)
  · simp only [decide_eq_true_eq] at h77
    refine wc_skip ?_
    refine then_n ?_
    repeat refine wc_seq ?_
    refine wc_block ?_
    repeat refine wc_seq ?_
    obtain ⟨y, hy⟩ : ∃ y, (tnd l)[k]? = some y := ⟨_, List.getElem?_eq_getElem (by rw [tnd_len]; omega)⟩
    have hLk := hM.reaB (k := k) (by omega)
    have hTk := hTG k (by omega)
    have hnp := isNop_get hy
    refine wc_region ?_
    refine w_val rfl rfl (op_pure rfl) ?_
    refine w_val rfl rfl (op_idxF rfl rfl (natA_cast _ _) rfl rfl rfl rfl (hS.row 0 rfl) (by omega)) ?_
    refine w_val rfl rfl (op_load rfl rfl (Row.mk_pt (hS.row 0 rfl) (by assumption)) rfl) ?_
    refine ws_alloc hS rfl rfl rfl rfl ?_
    rintro p5 z hS hk
    have hS : SH _ [_, _, _, _, _, _] z := hS
    have hK := hS.K
    refine w_val rfl rfl (op_pure rfl) ?_
    refine ws_store 5 hS rfl rfl rfl rfl rfl rfl (by rfl) (Nat.le_of_ble_eq_true rfl) ?_
    rintro z hS
    have hS : SH _ [_, _, _, _, _, _] z := hS
    have hK := hS.K
    refine w_nil ?_
    refine then_n ?_
    repeat refine wc_seq ?_
    refine wc_region ?_
    refine w_val rfl rfl (op_pure rfl) ?_
    refine w_val rfl rfl (op_pure rfl) ?_
    refine w_val rfl rfl (op_pure rfl) ?_
    refine w_val rfl rfl (op_len rfl rfl rfl rfl rfl (hS.row 4 rfl).slenF) ?_
    refine w_val rfl rfl (op_idxF rfl rfl (natA_cast _ _) rfl rfl rfl rfl (hS.row 3 rfl) (by omega)) ?_
    refine ws_storeE 3 hS rfl rfl rfl rfl rfl rfl rfl (by rfl) (by (simp; omega)) ?_
    rintro z hS
    have hS : SH _ [_, _, _, _, _, _] z := hS
    have hK := hS.K
    refine w_nil ?_
    have hS : SH s [rowC ov 2 ((tnd l).map inC), rowC rv 1 (L.map bC), rowC tv 1 (TT.map bC), rowC pv 1 ((Pl.set k (place l k : Int)).map iC), rowC o 1 ((tI (oldN l k)).map iC), ptC (.ptr p5 0 0) (inC y)] z := by
      have e : (place l k : Int) = ((tI (oldN l k)).length : Int) := by unfold place; rw [tI_len]
      rw [List.map_set, e]; exact hS
    have hP2 : ∀ c, c < k + 1 → (Pl.set k (place l k : Int))[c]? = some (place l c : Int) := fun c hc => by
      rw [List.getElem?_set]
      by_cases e : k = c
      · subst e; rw [if_pos rfl, if_pos (by omega)]
      · rw [if_neg e]; exact hP c (by omega)
    have hPl2 : (Pl.set k (place l k : Int)).length = l.length := by rw [List.length_set]; exact hPl
    refine then_n ?_
    repeat refine wc_seq ?_
    refine wc_region ?_
    refine w_val rfl rfl (op_pure rfl) ?_
    refine w_val rfl rfl (op_pure rfl) ?_
    refine w_val rfl rfl (op_idxF rfl rfl (natA_cast _ _) rfl rfl rfl rfl (hS.row 1 rfl) (by omega)) ?_
    refine w_val rfl rfl (op_load rfl rfl (Row.mk_pt (hS.row 1 rfl) (by assumption)) rfl) ?_
    refine w_val rfl rfl (op_pure rfl) ?_
    refine w_split (i := 90) rfl (fun h90 => ?_) (fun h90 => ?_)
    · skip
      refine w_val rfl rfl (op_fldP rfl rfl rfl rfl (by decide)) ?_
      refine w_val rfl rfl (op_loadC 5 hS rfl rfl rfl (Nat.le_of_ble_eq_true rfl) rfl) ?_
      refine w_val rfl rfl (op_pure rfl) ?_
      refine w_val rfl rfl (op_pure rfl) ?_
      refine w_split (i := 94) rfl (fun h94 => ?_) (fun h94 => ?_)
      · simp only [ne_eq, bne_iff_ne] at h94
        refine w_off rfl rfl ?_
        refine w_off rfl rfl ?_
        refine w_off rfl rfl ?_
        refine w_off rfl rfl ?_
        refine w_val rfl rfl (op_pure rfl) ?_
        refine w_val rfl rfl (op_pure rfl) ?_
        refine w_nil ?_
        refine then_n ?_
        refine wc_cond_t rfl ?_
        refine wc_region ?_
        refine w_val rfl rfl (op_pure rfl) ?_
        refine w_val rfl rfl (op_pure rfl) ?_
        refine ws_lit1 hS rfl rfl rfl rfl rfl rfl rfl rfl (by decide) (by decide) rfl (by rfl) rfl ?_
        rintro lt103 z hS hk hlt103
        have hK := hS.K
        refine ws_append 4 hS rfl rfl rfl rfl rfl rfl rfl rfl rfl rfl rfl (by decide) (hlt103) (by (simp only [List.length_map, List.length_nil, List.length_cons, maxBytes]; omega)) (by (simp only [List.length_map, List.length_nil, List.length_cons, maxBytes]; omega)) ?_
        rintro at104 z hS
        have hS : SH _ [_, _, _, _, _, _] z := hS
        have hK := hS.K
        refine w_val rfl rfl (op_pure rfl) ?_
        refine w_nil ?_
        refine out_n ?_
        refine then_n ?_
        refine wc_region ?_
        refine w_val rfl rfl (op_add rfl rfl (by unfold In64; omega)) ?_
        refine w_val rfl rfl (op_pure rfl) ?_
        refine w_nil ?_
        have hst : stays l k = true := by unfold stays; rw [hnp]; simp [h90, h94]
        have hS : SH s [rowC ov 2 ((tnd l).map inC), rowC rv 1 (L.map bC), rowC tv 1 (TT.map bC), rowC pv 1 ((Pl.set k (place l k : Int)).map iC), rowC at104 1 ((tI (oldN l (k + 1))).map iC)] z := by rw [oldN_yes hst, tI_app, List.map_append]; exact hS.sel [0, 1, 2, 3, 4] rfl (by decide)
        exact round_n _ _ (by omega) (Sub.cons rfl (Sub.cons rfl (Sub.cons rfl (Sub.cons rfl (Sub.cons rfl (Sub.cons rfl (Sub.cons rfl (Sub.cons rfl (Sub.cons rfl (Sub.nil _)))))))))) ⟨k + 1, _, at104, rfl, by omega, rfl, hS, hPl2, hP2⟩
      simp only [bne_eq_false_iff_eq] at h94
      refine w_val rfl rfl (op_pure rfl) ?_
      refine w_val rfl rfl (op_pure rfl) ?_
      refine w_val rfl rfl (op_idxF rfl rfl (natA_cast _ _) rfl rfl rfl rfl (hS.row 2 rfl) (by omega)) ?_
      refine w_val rfl rfl (op_load rfl rfl (Row.mk_pt (hS.row 2 rfl) (by assumption)) rfl) ?_
      refine w_val rfl rfl (op_pure rfl) ?_
      refine w_val rfl rfl (op_pure rfl) ?_
      refine w_nil ?_
      refine then_n ?_
      refine wc_condT rfl (fun h100 => ?_) (fun h100 => ?_)
      · skip
        refine wc_region ?_
        refine w_val rfl rfl (op_pure rfl) ?_
        refine w_val rfl rfl (op_pure rfl) ?_
        refine ws_lit1 hS rfl rfl rfl rfl rfl rfl rfl rfl (by decide) (by decide) rfl (by rfl) rfl ?_
        rintro lt103 z hS hk hlt103
        have hK := hS.K
        refine ws_append 4 hS rfl rfl rfl rfl rfl rfl rfl rfl rfl rfl rfl (by decide) (hlt103) (by (simp only [List.length_map, List.length_nil, List.length_cons, maxBytes]; omega)) (by (simp only [List.length_map, List.length_nil, List.length_cons, maxBytes]; omega)) ?_
        rintro at104 z hS
        have hS : SH _ [_, _, _, _, _, _] z := hS
        have hK := hS.K
        refine w_val rfl rfl (op_pure rfl) ?_
        refine w_nil ?_
        refine out_n ?_
        refine then_n ?_
        refine wc_region ?_
        refine w_val rfl rfl (op_add rfl rfl (by unfold In64; omega)) ?_
        refine w_val rfl rfl (op_pure rfl) ?_
        refine w_nil ?_
        have hst : stays l k = true := by unfold stays; rw [hnp]; simp [h90, h100]
        have hS : SH s [rowC ov 2 ((tnd l).map inC), rowC rv 1 (L.map bC), rowC tv 1 (TT.map bC), rowC pv 1 ((Pl.set k (place l k : Int)).map iC), rowC at104 1 ((tI (oldN l (k + 1))).map iC)] z := by rw [oldN_yes hst, tI_app, List.map_append]; exact hS.sel [0, 1, 2, 3, 4] rfl (by decide)
        exact round_n _ _ (by omega) (Sub.cons rfl (Sub.cons rfl (Sub.cons rfl (Sub.cons rfl (Sub.cons rfl (Sub.cons rfl (Sub.cons rfl (Sub.cons rfl (Sub.cons rfl (Sub.nil _)))))))))) ⟨k + 1, _, at104, rfl, by omega, rfl, hS, hPl2, hP2⟩
      skip
      refine wc_skip ?_
      refine out_n ?_
      refine then_n ?_
      refine wc_region ?_
      refine w_val rfl rfl (op_add rfl rfl (by unfold In64; omega)) ?_
      refine w_val rfl rfl (op_pure rfl) ?_
      refine w_nil ?_
      have hst : stays l k = false := by unfold stays; rw [hnp]; simp [h94, h100]
      have hS : SH s [rowC ov 2 ((tnd l).map inC), rowC rv 1 (L.map bC), rowC tv 1 (TT.map bC), rowC pv 1 ((Pl.set k (place l k : Int)).map iC), rowC o 1 ((tI (oldN l (k + 1))).map iC)] z := by rw [oldN_no hst]; exact hS.sel [0, 1, 2, 3, 4] rfl (by decide)
      exact round_n _ _ (by omega) (Sub.cons rfl (Sub.cons rfl (Sub.cons rfl (Sub.cons rfl (Sub.cons rfl (Sub.cons rfl (Sub.cons rfl (Sub.cons rfl (Sub.cons rfl (Sub.nil _)))))))))) ⟨k + 1, _, o, rfl, by omega, rfl, hS, hPl2, hP2⟩
    skip
    refine w_off rfl rfl ?_
    refine w_off rfl rfl ?_
    refine w_off rfl rfl ?_
    refine w_off rfl rfl ?_
    refine w_off rfl rfl ?_
    refine w_off rfl rfl ?_
    refine w_off rfl rfl ?_
    refine w_off rfl rfl ?_
    refine w_off rfl rfl ?_
    refine w_val rfl rfl (op_pure rfl) ?_
    refine w_nil ?_
    refine then_n ?_
    refine wc_cond_f rfl ?_
    refine wc_skip ?_
    refine out_n ?_
    refine then_n ?_
    refine wc_region ?_
    refine w_val rfl rfl (op_add rfl rfl (by unfold In64; omega)) ?_
    refine w_val rfl rfl (op_pure rfl) ?_
    refine w_nil ?_
    have hst : stays l k = false := by unfold stays; rw [hnp]; simp [h90]
    have hS : SH s [rowC ov 2 ((tnd l).map inC), rowC rv 1 (L.map bC), rowC tv 1 (TT.map bC), rowC pv 1 ((Pl.set k (place l k : Int)).map iC), rowC o 1 ((tI (oldN l (k + 1))).map iC)] z := by rw [oldN_no hst]; exact hS.sel [0, 1, 2, 3, 4] rfl (by decide)
    exact round_n _ _ (by omega) (Sub.cons rfl (Sub.cons rfl (Sub.cons rfl (Sub.cons rfl (Sub.cons rfl (Sub.cons rfl (Sub.cons rfl (Sub.cons rfl (Sub.cons rfl (Sub.nil _)))))))))) ⟨k + 1, _, o, rfl, by omega, rfl, hS, hPl2, hP2⟩
  simp only [decide_eq_false_iff_not] at h77
  obtain rfl : k = l.length := by omega
  refine wc_exit ?_
  repeat first | refine then_x ?_ | refine round_x ?_ | refine cut_x ?_ | refine out_x' (by decide) ?_
  refine out_x ?_
  refine then_n ?_
  repeat refine wc_seq ?_
  refine wc_region ?_
  refine w_val rfl rfl (op_pure rfl) ?_
  refine w_val rfl rfl (op_len rfl rfl rfl rfl rfl (hS.row 4 rfl).slenF) ?_
  refine ws_mk (n := (tI (oldN l l.length)).length) hS rfl rfl rfl rfl rfl rfl rfl rfl rfl (by decide) rfl (by simp only [maxBytes]; omega) (by omega) ?_
  rintro xv z hS hne hk
  have hS : SH s [rowC ov 2 ((tnd l).map inC), rowC rv 1 (L.map bC), rowC tv 1 (TT.map bC), rowC pv 1 (Pl.map iC), rowC o 1 ((tI (oldN l l.length)).map iC), rowC xv 2 ((List.replicate (tI (oldN l l.length)).length (⟨0, 0⟩ : InstrL)).map inC)] z := by rw [← rep_inC]; exact hS.sel [0, 1, 2, 3, 4, 5] rfl (by decide)
  have hK := hS.K
  refine w_val rfl rfl (op_pure rfl) ?_
  refine w_nil ?_
  refine then_n ?_
  repeat refine wc_seq ?_
  refine wc_region ?_
  refine w_val rfl rfl (op_pure rfl) ?_
  refine w_val rfl rfl (op_len rfl rfl rfl rfl rfl (hS.row 4 rfl).slenF) ?_
  refine w_val rfl rfl (op_pure rfl) ?_
  refine w_nil ?_
  refine then_n ?_
  repeat refine wc_seq ?_
  refine wc_block ?_
  refine wc_loop_at (fun jj m z => ∃ (k : Nat) (X : List InstrL), jj = (tI (oldN l l.length)).length - k ∧ k ≤ (tI (oldN l l.length)).length ∧ m = [(4, ov), (5, .fn 56 []), (12, pv), (13, o), (16, xv), (109, o), (110, .int .i64 ((tI (oldN l l.length)).length : Nat)), (111, .int .i64 (k : Nat))] ∧ SH s [rowC ov 2 ((tnd l).map inC), rowC rv 1 (L.map bC), rowC tv 1 (TT.map bC), rowC pv 1 (Pl.map iC), rowC o 1 ((tI (oldN l l.length)).map iC), rowC xv 2 (X.map inC)] z ∧ X.length = (tI (oldN l l.length)).length ∧ ∀ c, c < k → X[c]? = (codeL l)[c]?) (tI (oldN l l.length)).length
    [(4, ov), (5, .fn 56 []), (12, pv), (13, o), (16, xv), (109, o), (110, .int .i64 ((tI (oldN l l.length)).length : Nat)), (111, .int .i64 ((0 : Nat) : Int))] (Sub.cons rfl (Sub.cons rfl (Sub.cons rfl (Sub.cons rfl (Sub.cons rfl (Sub.cons rfl (Sub.cons rfl (Sub.cons rfl (Sub.nil _))))))))) ⟨0, _, by simp, by simp, rfl, hS, by simp, fun c h => by omega⟩ ?_
  clear hS hK
  rintro jj m z ⟨k, X, rfl, hk, rfl, hS, hXl, hX⟩
  have hK := hS.K
  repeat refine wc_seq ?_
  refine wc_region ?_
  refine w_val rfl rfl (op_pure rfl) ?_
  refine w_nil ?_
  refine then_n ?_
  repeat refine wc_seq ?_
  refine wc_condT rfl (fun h112 => ?_) (fun h112 => ?_)
  · simp only [decide_eq_true_eq] at h112
    refine wc_skip ?_
    refine then_n ?_
    repeat refine wc_seq ?_
    refine wc_block ?_
    repeat refine wc_seq ?_
    obtain ⟨a, ha⟩ : ∃ a, (oldN l l.length)[k]? = some a := ⟨_, List.getElem?_eq_getElem (by rw [← tI_len]; omega)⟩
    have hta := tI_get ha
    have hal := (oldN_mem (List.mem_of_getElem? ha)).1
    obtain ⟨y, hy⟩ : ∃ y, (tnd l)[a]? = some y := ⟨_, List.getElem?_eq_getElem (by rw [tnd_len]; omega)⟩
    have hck : (codeL l)[k]? = some (finI l y) := by unfold codeL; rw [List.getElem?_map, ha, Option.map_some, hy, Option.getD_some]
    refine wc_region ?_
    refine w_val rfl rfl (op_pure rfl) ?_
    refine w_val rfl rfl (op_idxF rfl rfl (natA_cast _ _) rfl rfl rfl rfl (hS.row 4 rfl) (by omega)) ?_
    refine w_val rfl rfl (op_load rfl rfl (Row.mk_pt (hS.row 4 rfl) (by assumption)) rfl) ?_
    refine w_val rfl rfl (op_pure rfl) ?_
    refine w_val rfl rfl (op_pure rfl) ?_
    refine w_nil ?_
    refine then_n ?_
    repeat refine wc_seq ?_
    refine wc_region ?_
    refine w_val rfl rfl (op_pure rfl) ?_
    refine w_val rfl rfl (op_pure rfl) ?_
    refine w_val rfl rfl (op_idxF rfl rfl (natA_cast _ _) rfl rfl rfl rfl (hS.row 0 rfl) (by omega)) ?_
    refine w_val rfl rfl (op_load rfl rfl (Row.mk_pt (hS.row 0 rfl) (by assumption)) rfl) ?_
    refine ws_alloc hS rfl rfl rfl rfl ?_
    rintro p6 z hS hk
    have hS : SH _ [_, _, _, _, _, _, _] z := hS
    have hK := hS.K
    refine ws_store 6 hS rfl rfl rfl rfl rfl rfl (by rfl) (Nat.le_of_ble_eq_true rfl) ?_
    rintro z hS
    have hS : SH _ [_, _, _, _, _, _, _] z := hS
    have hK := hS.K
    refine w_nil ?_
    refine then_n ?_
    repeat refine wc_seq ?_
    refine wc_region ?_
    refine w_val rfl rfl (op_pure rfl) ?_
    refine w_val rfl rfl (op_loadC 6 hS rfl rfl rfl (Nat.le_of_ble_eq_true rfl) rfl) ?_
    refine w_call rfl rfl (op_call rfl rfl rfl rfl) (branch_ok hK.ok) ?_
    rintro _ z ⟨hk2, rfl⟩
    have hS := hS.mov hk2
    have hK := hS.K
    refine w_nil ?_
    refine then_n ?_
    repeat refine wc_seq ?_
    refine wc_condT rfl (fun h122 => ?_) (fun h122 => ?_)
    · obtain ⟨hy0, hyn⟩ := tnd_in hR (List.mem_of_getElem? hy) h122
      obtain ⟨yo, ya⟩ := y
      obtain ⟨b, hb⟩ : ∃ b : Nat, ya = b := ⟨ya.toNat, by simp only at hy0; omega⟩
      subst hb
      have hbl : b < l.length := by simp only at hyn; omega
      have hPb := hP b hbl
      have hfi : finI l ⟨yo, (b : Int)⟩ = ⟨yo, (place l b : Int)⟩ := by unfold finI; rw [if_pos h122]; simp only; rw [Int.toNat_natCast]
      refine wc_region ?_
      refine w_val rfl rfl (op_pure rfl) ?_
      refine w_val rfl rfl (op_fldP rfl rfl rfl rfl (by decide)) ?_
      refine w_val rfl rfl (op_loadC 6 hS rfl rfl rfl (Nat.le_of_ble_eq_true rfl) rfl) ?_
      refine w_val rfl rfl (op_idxF rfl rfl (natA_cast _ _) rfl rfl rfl rfl (hS.row 3 rfl) (by omega)) ?_
      refine w_val rfl rfl (op_load rfl rfl (Row.mk_pt (hS.row 3 rfl) (by assumption)) rfl) ?_
      refine w_val rfl rfl (op_fldP rfl rfl rfl rfl (by decide)) ?_
      refine ws_storeL 6 hS rfl rfl rfl rfl rfl rfl (by rfl) (Nat.le_of_ble_eq_true rfl) ?_
      rintro z hS
      have hS : SH _ [_, _, _, _, _, _, _] z := hS
      have hK := hS.K
      refine w_nil ?_
      refine then_n ?_
      refine wc_region ?_
      refine w_val rfl rfl (op_pure rfl) ?_
      refine w_val rfl rfl (op_pure rfl) ?_
      refine w_val rfl rfl (op_loadC 6 hS rfl rfl rfl (Nat.le_of_ble_eq_true rfl) rfl) ?_
      refine w_val rfl rfl (op_idxF rfl rfl (natA_cast _ _) rfl rfl rfl rfl (hS.row 5 rfl) (by omega)) ?_
      refine ws_storeE 5 hS rfl rfl rfl rfl rfl rfl rfl (by rfl) (by (simp; omega)) ?_
      rintro z hS
      have hS : SH _ [_, _, _, _, _, _, _] z := hS
      have hK := hS.K
      refine w_nil ?_
      refine out_n ?_
      refine then_n ?_
      refine wc_region ?_
      refine w_val rfl rfl (op_add rfl rfl (by unfold In64; omega)) ?_
      refine w_val rfl rfl (op_pure rfl) ?_
      refine w_nil ?_
      have hS : SH s [rowC ov 2 ((tnd l).map inC), rowC rv 1 (L.map bC), rowC tv 1 (TT.map bC), rowC pv 1 (Pl.map iC), rowC o 1 ((tI (oldN l l.length)).map iC), rowC xv 2 ((X.set k ⟨yo, (place l b : Int)⟩).map inC)] z := by
        rw [List.map_set]; exact hS.sel [0, 1, 2, 3, 4, 5] rfl (by decide)
      exact round_n _ _ (by omega) (Sub.cons rfl (Sub.cons rfl (Sub.cons rfl (Sub.cons rfl (Sub.cons rfl (Sub.cons rfl (Sub.cons rfl (Sub.cons rfl (Sub.nil _))))))))) ⟨k + 1, _, rfl, by omega, rfl, hS, by rw [List.length_set]; exact hXl, fun c hc => by
        rw [List.getElem?_set]
        by_cases e : k = c
        · subst e; rw [if_pos rfl, if_pos (by omega), hck, hfi]
        · rw [if_neg e]; exact hX c (by omega)⟩
    have hfi : finI l y = y := by unfold finI; rw [if_neg (by rw [h122]; decide)]
    refine wc_skip ?_
    refine then_n ?_
    refine wc_region ?_
    refine w_val rfl rfl (op_pure rfl) ?_
    refine w_val rfl rfl (op_pure rfl) ?_
    refine w_val rfl rfl (op_loadC 6 hS rfl rfl rfl (Nat.le_of_ble_eq_true rfl) rfl) ?_
    refine w_val rfl rfl (op_idxF rfl rfl (natA_cast _ _) rfl rfl rfl rfl (hS.row 5 rfl) (by omega)) ?_
    refine ws_storeE 5 hS rfl rfl rfl rfl rfl rfl rfl (by rfl) (by (simp; omega)) ?_
    rintro z hS
    have hS : SH _ [_, _, _, _, _, _, _] z := hS
    have hK := hS.K
    refine w_nil ?_
    refine out_n ?_
    refine then_n ?_
    refine wc_region ?_
    refine w_val rfl rfl (op_add rfl rfl (by unfold In64; omega)) ?_
    refine w_val rfl rfl (op_pure rfl) ?_
    refine w_nil ?_
    have hS : SH s [rowC ov 2 ((tnd l).map inC), rowC rv 1 (L.map bC), rowC tv 1 (TT.map bC), rowC pv 1 (Pl.map iC), rowC o 1 ((tI (oldN l l.length)).map iC), rowC xv 2 ((X.set k y).map inC)] z := by
      rw [List.map_set]; exact hS.sel [0, 1, 2, 3, 4, 5] rfl (by decide)
    exact round_n _ _ (by omega) (Sub.cons rfl (Sub.cons rfl (Sub.cons rfl (Sub.cons rfl (Sub.cons rfl (Sub.cons rfl (Sub.cons rfl (Sub.cons rfl (Sub.nil _))))))))) ⟨k + 1, _, rfl, by omega, rfl, hS, by rw [List.length_set]; exact hXl, fun c hc => by
      rw [List.getElem?_set]
      by_cases e : k = c
      · subst e; rw [if_pos rfl, if_pos (by omega), hck, hfi]
      · rw [if_neg e]; exact hX c (by omega)⟩
  simp only [decide_eq_false_iff_not] at h112
  obtain rfl : k = (tI (oldN l l.length)).length := by omega
  have hXe : X = codeL l := by
    refine List.ext_getElem? fun c => ?_
    by_cases hc : c < (tI (oldN l l.length)).length
    · exact hX c hc
    · rw [List.getElem?_eq_none (by omega), List.getElem?_eq_none (by unfold codeL; rw [List.length_map, ← tI_len]; omega)]
  rw [hXe] at hS
  refine wc_exit ?_
  repeat first | refine then_x ?_ | refine round_x ?_ | refine cut_x ?_ | refine out_x' (by decide) ?_
  refine out_x ?_
  refine then_n ?_
  repeat refine wc_seq ?_
  refine wc_region ?_
  refine w_val rfl rfl (op_pure rfl) ?_
  refine w_val rfl rfl (op_pure rfl) ?_
  refine w_call rfl rfl (op_call rfl rfl rfl rfl) (clipInts_ok (hS.row 4 rfl) (hS.nls 4 rfl)) ?_
  rintro _ _ ⟨rfl, rfl⟩
  refine w_val rfl rfl (op_pure rfl) ?_
  refine w_val rfl rfl (op_pure rfl) ?_
  refine w_nil ?_
  refine then_n ?_
  refine wc_ret ?_
  repeat first | refine then_r ?_ | refine out_r ?_ | refine round_r ?_ | refine cut_r ?_ | refine sc_r ?_
  exact ⟨_, rfl, hK, xv, clipA o, rfl, by unfold codeO; rw [if_pos hR]; exact hS.row 5 rfl, by unfold oldO; rw [if_pos hR]; exact (hS.row 4 rfl).clip, (fun g hg => (hS.bd 5 rfl g hg).1), (fun g hg => (hS.bd 4 rfl g (show g ∈ o.gs by rw [← clipA_gs]; exact hg)).1),
    (fun g hg h => hS.dis 5 4 _ _ (by decide) rfl rfl g hg (show g ∈ o.gs by rw [← clipA_gs]; exact h)), hS.nls 5 rfl, fun e => by rw [clipA_gs] at e; rw [hS.nls 4 rfl e]; rfl⟩
end Go.Ab
/- The document's Code. -/
namespace Go.Ab
open Go.Proofs
theorem codeL_take {l : List InstrL} {k a : Nat} {y : InstrL} (ha : (oldN l l.length)[k]? = some a) (hy : (tnd l)[a]? = some y) : ((codeL l).take (k + 1)).map inC = ((codeL l).take k).map inC ++ [inC (finI l y)] := by
  refine snoc_map1 ?_ inC
  unfold codeL
  rw [List.getElem?_map, ha, Option.map_some, hy, Option.getD_some]
theorem branch43 {y : InstrL} (h : y.op = 43) : branchI y = true := branchI_iff.2 (.inl h)
theorem branch44 {y : InstrL} (h : y.op = 44) : branchI y = true := branchI_iff.2 (.inr h)
theorem branch_no {y : InstrL} (h : ¬ y.op = 43) (h2 : ¬ y.op = 44) : branchI y = false := by
  cases e : branchI y with
  | false => rfl
  | true => rcases branchI_iff.1 e with k | k; exact (h k).elim; exact (h2 k).elim
set_option maxRecDepth 10000 in
set_option maxHeartbeats 8000000 in
theorem trimCode_ref_ok {s : St} {v : AV} {l : List InstrL} (hok : s.Ok) (hv : Row s.h 2 v (l.map inC)) (hl : l.length ≤ 2097152) :
    CallS Try.prog Tt Kt 19 [v] s (fun r s' => Keep [] s s' ∧ ∃ x o, r = .tup [x, o] ∧ Row s'.h 2 x ((codeO l).map inC) ∧ Row s'.h 1 o ((oldO l).map iC) ∧ (∀ g ∈ x.gs, s.ctr ≤ g) ∧ ∀ g ∈ o.gs, s.ctr ≤ g) := by
  refine call_of (fn := Try.f19) (nt := 157) Try.func19 rfl rfl rfl ?_
  repeat refine wc_seq ?_
  have hS := SH.start hok
  have hK := hS.K
  refine wc_region ?_
  refine w_val rfl rfl (op_pure rfl) ?_
  refine w_val rfl rfl (op_pure rfl) ?_
  refine w_nil ?_
  refine then_n ?_
  repeat refine wc_seq ?_
  refine wc_region ?_
  refine w_val rfl rfl (op_pure rfl) ?_
  refine w_call rfl rfl (op_call rfl rfl rfl rfl) (right_ref_code_ok hK.ok hv hl) ?_
  rintro _ z ⟨hk, rfl⟩
  have hS := hS.mov hk
  have hK := hS.K
  refine w_val rfl rfl (op_pure rfl) ?_
  refine w_nil ?_
  refine then_n ?_
  repeat refine wc_seq ?_
  refine wc_condT rfl (fun h21 => ?_) (fun h21 => ?_)
  · simp only [Bool.not_eq_true'] at h21
    repeat refine wc_seq ?_
    refine wc_region ?_
    refine w_val rfl rfl (op_pure rfl) ?_
    refine w_val rfl rfl (op_pure rfl) ?_
    refine w_nil ?_
    refine then_n ?_
    refine wc_ret ?_
    repeat first | refine then_r ?_ | refine out_r ?_ | refine round_r ?_ | refine cut_r ?_ | refine sc_r ?_
    exact ⟨_, rfl, hK, .nils, .nils, rfl, by unfold codeO; rw [if_neg (by rw [h21]; decide)]; exact row_nils _ _, by unfold oldO; rw [if_neg (by rw [h21]; decide)]; exact row_nils _ _, (fun g hg => by cases hg), fun g hg => by cases hg⟩
  simp only [Bool.not_eq_false'] at h21
  refine wc_skip ?_
  refine then_n ?_
  repeat refine wc_seq ?_
  refine wc_region ?_
  refine w_val rfl rfl (op_pure rfl) ?_
  refine w_val rfl rfl (op_len rfl rfl rfl rfl rfl hv.slenF) ?_
  refine w_val rfl rfl (op_pure rfl) ?_
  refine w_nil ?_
  refine then_n ?_
  repeat refine wc_seq ?_
  refine wc_region ?_
  refine w_val rfl rfl (op_pure rfl) ?_
  refine w_nil ?_
  refine then_n ?_
  repeat refine wc_seq ?_
  have hR := h21
  have hS : SH s [rowC .nils 2 (((tnd l).take 0).map inC)] z := hS.nil 2
  have htl := tnd_len l
  refine wc_region ?_
  refine w_val rfl rfl (op_pure rfl) ?_
  refine w_nil ?_
  refine then_n ?_
  repeat refine wc_seq ?_
  refine wc_block ?_
  refine wc_loop_at (fun jj m z => ∃ (k : Nat) (ov : AV), jj = l.length - k ∧ k ≤ l.length ∧ m = [(0, v), (4, .int .i64 (l.length : Nat)), (5, ov), (6, .int .i64 (k : Nat))] ∧ SH s [rowC ov 2 (((tnd l).take k).map inC)] z) l.length
    [(0, v), (4, .int .i64 (l.length : Nat)), (5, .nils), (6, .int .i64 ((0 : Nat) : Int))] (Sub.cons rfl (Sub.cons rfl (Sub.cons rfl (Sub.cons rfl (Sub.nil _))))) ⟨0, .nils, by simp, by simp, rfl, hS⟩ ?_
  clear hS hK
  rintro jj m z ⟨k, ov, rfl, hk, rfl, hS⟩
  have hK := hS.K
  repeat refine wc_seq ?_
  refine wc_region ?_
  refine w_val rfl rfl (op_pure rfl) ?_
  refine w_val rfl rfl (op_pure rfl) ?_
  refine w_val rfl rfl (op_pure rfl) ?_
  refine w_nil ?_
  refine then_n ?_
  repeat refine wc_seq ?_
  refine wc_condT rfl (fun h26 => ?_) (fun h26 => ?_)
  · simp only [decide_eq_true_eq] at h26
    refine wc_skip ?_
    refine then_n ?_
    repeat refine wc_seq ?_
    refine wc_block ?_
    repeat refine wc_seq ?_
    obtain ⟨y, hy⟩ : ∃ y, l[k]? = some y := ⟨_, List.getElem?_eq_getElem (by omega)⟩
    have hvz := hv.keep0 hK
    have hty := tnd_get hy
    have hlt : ((tnd l).take k).length ≤ 2097152 := by rw [List.length_take]; omega
    refine wc_region ?_
    refine w_val rfl rfl (op_pure rfl) ?_
    refine w_val rfl rfl (op_pure rfl) ?_
    refine w_val rfl rfl (op_idxF rfl rfl (natA_cast _ _) rfl rfl rfl rfl hvz (by omega)) ?_
    refine w_val rfl rfl (op_load (v := .agg (inC y)) rfl rfl (Row.mk_pt hvz hy) rfl) ?_
    refine ws_alloc hS rfl rfl rfl rfl ?_
    rintro p1 z hS hk
    have hS : SH _ [_, _] z := hS
    have hK := hS.K
    refine ws_store 1 hS rfl rfl rfl rfl rfl rfl (by rfl) (Nat.le_of_ble_eq_true rfl) ?_
    rintro z hS
    have hS : SH _ [_, _] z := hS
    have hK := hS.K
    refine w_nil ?_
    refine then_n ?_
    repeat refine wc_seq ?_
    refine wc_region ?_
    refine w_val rfl rfl (op_fldP rfl rfl rfl rfl (by decide)) ?_
    refine w_val rfl rfl (op_loadC 1 hS rfl rfl rfl (Nat.le_of_ble_eq_true rfl) rfl) ?_
    refine w_val rfl rfl (op_pure rfl) ?_
    refine w_val rfl rfl (op_pure rfl) ?_
    refine w_split (i := 36) rfl (fun h36 => ?_) (fun h36 => ?_)
    · simp only [beq_iff_eq] at h36
      refine w_off rfl rfl ?_
      refine w_off rfl rfl ?_
      refine w_off rfl rfl ?_
      refine w_val rfl rfl (op_pure rfl) ?_
      refine w_nil ?_
      refine then_n ?_
      repeat refine wc_seq ?_
      refine wc_cond_t rfl ?_
      refine wc_region ?_
      refine w_val rfl rfl (op_pure rfl) ?_
      refine w_val rfl rfl (op_fldP rfl rfl rfl rfl (by decide)) ?_
      refine w_val rfl rfl (op_loadC 1 hS rfl rfl rfl (Nat.le_of_ble_eq_true rfl) rfl) ?_
      refine w_call rfl rfl (op_call rfl rfl rfl rfl) (comes_ref_ok hK.ok (hv.keep0 hK) hl) ?_
      rintro _ z ⟨hk2, rfl⟩
      have hS := hS.mov hk2
      have hK := hS.K
      refine w_val rfl rfl (op_fldP rfl rfl rfl rfl (by decide)) ?_
      refine ws_storeL 1 hS rfl rfl rfl rfl rfl rfl (by rfl) (Nat.le_of_ble_eq_true rfl) ?_
      rintro z hS
      have hS : SH _ [_, _] z := hS
      have hK := hS.K
      refine w_nil ?_
      refine then_n ?_
      refine wc_region ?_
      refine w_val rfl rfl (op_pure rfl) ?_
      refine w_val rfl rfl (op_loadC 1 hS rfl rfl rfl (Nat.le_of_ble_eq_true rfl) rfl) ?_
      refine ws_lit1 hS rfl rfl rfl rfl rfl rfl rfl rfl (by decide) (by decide) rfl (by rfl) rfl ?_
      rintro lt48 z hS hk hlt48
      have hK := hS.K
      refine ws_append 0 hS rfl rfl rfl rfl rfl rfl rfl rfl rfl rfl rfl (by decide) (hlt48) (by (simp only [List.length_map, List.length_nil, List.length_cons, List.length_take, maxBytes]; omega)) (by (simp only [List.length_map, List.length_nil, List.length_cons, List.length_take, maxBytes]; omega)) ?_
      rintro at49 z hS
      have hS : SH _ [_, _] z := hS
      have hK := hS.K
      refine w_val rfl rfl (op_pure rfl) ?_
      refine w_nil ?_
      refine out_n ?_
      refine then_n ?_
      refine wc_region ?_
      refine w_val rfl rfl (op_pure rfl) ?_
      refine w_val rfl rfl (op_add rfl rfl (by unfold In64; omega)) ?_
      refine w_val rfl rfl (op_pure rfl) ?_
      refine w_nil ?_
      have hti : tndI l y = ⟨y.op, comesF l y.a⟩ := by unfold tndI; rw [if_pos (branch43 h36)]
      have hS : SH s [rowC at49 2 (((tnd l).take (k + 1)).map inC)] z := by
        rw [snoc_map1 hty, hti]; exact hS.sel [0] rfl (by decide)
      exact round_n _ _ (by omega) (Sub.cons rfl (Sub.cons rfl (Sub.cons rfl (Sub.cons rfl (Sub.nil _))))) ⟨k + 1, at49, rfl, by omega, rfl, hS⟩
    simp only [beq_eq_false_iff_ne, ne_eq] at h36
    refine w_val rfl rfl (op_fldP rfl rfl rfl rfl (by decide)) ?_
    refine w_val rfl rfl (op_loadC 1 hS rfl rfl rfl (Nat.le_of_ble_eq_true rfl) rfl) ?_
    refine w_val rfl rfl (op_pure rfl) ?_
    refine w_val rfl rfl (op_pure rfl) ?_
    refine w_nil ?_
    refine then_n ?_
    repeat refine wc_seq ?_
    refine wc_condT rfl (fun h40 => ?_) (fun h40 => ?_)
    · simp only [beq_iff_eq] at h40
      refine wc_region ?_
      refine w_val rfl rfl (op_pure rfl) ?_
      refine w_val rfl rfl (op_fldP rfl rfl rfl rfl (by decide)) ?_
      refine w_val rfl rfl (op_loadC 1 hS rfl rfl rfl (Nat.le_of_ble_eq_true rfl) rfl) ?_
      refine w_call rfl rfl (op_call rfl rfl rfl rfl) (comes_ref_ok hK.ok (hv.keep0 hK) hl) ?_
      rintro _ z ⟨hk2, rfl⟩
      have hS := hS.mov hk2
      have hK := hS.K
      refine w_val rfl rfl (op_fldP rfl rfl rfl rfl (by decide)) ?_
      refine ws_storeL 1 hS rfl rfl rfl rfl rfl rfl (by rfl) (Nat.le_of_ble_eq_true rfl) ?_
      rintro z hS
      have hS : SH _ [_, _] z := hS
      have hK := hS.K
      refine w_nil ?_
      refine then_n ?_
      refine wc_region ?_
      refine w_val rfl rfl (op_pure rfl) ?_
      refine w_val rfl rfl (op_loadC 1 hS rfl rfl rfl (Nat.le_of_ble_eq_true rfl) rfl) ?_
      refine ws_lit1 hS rfl rfl rfl rfl rfl rfl rfl rfl (by decide) (by decide) rfl (by rfl) rfl ?_
      rintro lt48 z hS hk hlt48
      have hK := hS.K
      refine ws_append 0 hS rfl rfl rfl rfl rfl rfl rfl rfl rfl rfl rfl (by decide) (hlt48) (by (simp only [List.length_map, List.length_nil, List.length_cons, List.length_take, maxBytes]; omega)) (by (simp only [List.length_map, List.length_nil, List.length_cons, List.length_take, maxBytes]; omega)) ?_
      rintro at49 z hS
      have hS : SH _ [_, _] z := hS
      have hK := hS.K
      refine w_val rfl rfl (op_pure rfl) ?_
      refine w_nil ?_
      refine out_n ?_
      refine then_n ?_
      refine wc_region ?_
      refine w_val rfl rfl (op_pure rfl) ?_
      refine w_val rfl rfl (op_add rfl rfl (by unfold In64; omega)) ?_
      refine w_val rfl rfl (op_pure rfl) ?_
      refine w_nil ?_
      have hti : tndI l y = ⟨y.op, comesF l y.a⟩ := by unfold tndI; rw [if_pos (branch44 h40)]
      have hS : SH s [rowC at49 2 (((tnd l).take (k + 1)).map inC)] z := by
        rw [snoc_map1 hty, hti]; exact hS.sel [0] rfl (by decide)
      exact round_n _ _ (by omega) (Sub.cons rfl (Sub.cons rfl (Sub.cons rfl (Sub.cons rfl (Sub.nil _))))) ⟨k + 1, at49, rfl, by omega, rfl, hS⟩
    simp only [beq_eq_false_iff_ne, ne_eq] at h40
    refine wc_skip ?_
    refine then_n ?_
    refine wc_region ?_
    refine w_val rfl rfl (op_pure rfl) ?_
    refine w_val rfl rfl (op_loadC 1 hS rfl rfl rfl (Nat.le_of_ble_eq_true rfl) rfl) ?_
    refine ws_lit1 hS rfl rfl rfl rfl rfl rfl rfl rfl (by decide) (by decide) rfl (by rfl) rfl ?_
    rintro lt48 z hS hk hlt48
    have hK := hS.K
    refine ws_append 0 hS rfl rfl rfl rfl rfl rfl rfl rfl rfl rfl rfl (by decide) (hlt48) (by (simp only [List.length_map, List.length_nil, List.length_cons, List.length_take, maxBytes]; omega)) (by (simp only [List.length_map, List.length_nil, List.length_cons, List.length_take, maxBytes]; omega)) ?_
    rintro at49 z hS
    have hS : SH _ [_, _] z := hS
    have hK := hS.K
    refine w_val rfl rfl (op_pure rfl) ?_
    refine w_nil ?_
    refine out_n ?_
    refine then_n ?_
    refine wc_region ?_
    refine w_val rfl rfl (op_pure rfl) ?_
    refine w_val rfl rfl (op_add rfl rfl (by unfold In64; omega)) ?_
    refine w_val rfl rfl (op_pure rfl) ?_
    refine w_nil ?_
    have hti : tndI l y = y := by unfold tndI; rw [if_neg (by rw [branch_no h36 h40]; decide)]
    have hS : SH s [rowC at49 2 (((tnd l).take (k + 1)).map inC)] z := by
      rw [snoc_map1 hty, hti]; exact hS.sel [0] rfl (by decide)
    exact round_n _ _ (by omega) (Sub.cons rfl (Sub.cons rfl (Sub.cons rfl (Sub.cons rfl (Sub.nil _))))) ⟨k + 1, at49, rfl, by omega, rfl, hS⟩
  simp only [decide_eq_false_iff_not] at h26
  obtain rfl : k = l.length := by omega
  rw [List.take_of_length_le (by omega)] at hS
  refine wc_exit ?_
  repeat first | refine then_x ?_ | refine round_x ?_ | refine cut_x ?_ | refine out_x' (by decide) ?_
  refine out_x ?_
  refine then_n ?_
  repeat refine wc_seq ?_
  refine wc_region ?_
  refine w_val rfl rfl (op_pure rfl) ?_
  refine w_val rfl rfl (op_pure (build48 (hS.row 0 rfl).leaf)) ?_
  refine w_call rfl rfl (op_call rfl rfl rfl rfl) (reach_ref_ok hK.ok (hS.row 0 rfl) (by omega) (by simp only [List.all_cons, List.all_nil, (hS.row 0 rfl).leaf]; rfl)) ?_
  rintro rv z1 ⟨hk, L, hM, hr, hb, hn⟩
  have hS := hS.add hk (rowC rv 1 (L.map bC)) ⟨hr, hn⟩ (fun g hg => ⟨hb g hg, hr.lt hk.ok g hg⟩)
  have hS : SH _ [_, _] z1 := hS
  have hK := hS.K
  have hLl : L.length = l.length + 1 := by rw [hM.1, tnd_len]
  clear hr hb hn
  refine w_val rfl rfl (op_pure rfl) ?_
  refine w_nil ?_
  refine then_n ?_
  repeat refine wc_seq ?_
  refine wc_region ?_
  refine w_val rfl rfl (op_pure rfl) ?_
  refine ws_mk hS rfl rfl rfl rfl rfl rfl rfl rfl rfl (by decide) rfl (by simp only [maxBytes]; omega) (by omega) ?_
  rintro tv z hS hne hk
  have hS : SH s [rowC ov 2 ((tnd l).map inC), rowC rv 1 (L.map bC), rowC tv 1 ((List.replicate l.length false).map bC)] z := by rw [← rep_bC]; exact hS
  have hK := hS.K
  refine w_val rfl rfl (op_pure rfl) ?_
  refine w_nil ?_
  refine then_n ?_
  repeat refine wc_seq ?_
  refine wc_region ?_
  refine w_val rfl rfl (op_pure rfl) ?_
  refine w_nil ?_
  refine then_n ?_
  repeat refine wc_seq ?_
  refine wc_block ?_
  refine wc_loop_at (fun jj m z => ∃ (k : Nat) (TT : List Bool), jj = l.length - k ∧ k ≤ l.length ∧ m = [(4, .int .i64 (l.length : Nat)), (5, ov), (8, rv), (9, tv), (10, .int .i64 (k : Nat))] ∧ SH s [rowC ov 2 ((tnd l).map inC), rowC rv 1 (L.map bC), rowC tv 1 (TT.map bC)] z ∧ TT.length = l.length ∧ ∀ c, c < k → TT[c]? = some (reaB l c && !isNop l c)) l.length
    [(4, .int .i64 (l.length : Nat)), (5, ov), (8, rv), (9, tv), (10, .int .i64 ((0 : Nat) : Int))] (Sub.cons rfl (Sub.cons rfl (Sub.cons rfl (Sub.cons rfl (Sub.cons rfl (Sub.nil _)))))) ⟨0, _, by simp, by simp, rfl, hS, by simp, fun c h => by omega⟩ ?_
  clear hS hK
  rintro jj m z ⟨k, TT, rfl, hk, rfl, hS, hTl, hT⟩
  have hK := hS.K
  repeat refine wc_seq ?_
  refine wc_region ?_
  refine w_val rfl rfl (op_pure rfl) ?_
  refine w_val rfl rfl (op_pure rfl) ?_
  refine w_val rfl rfl (op_pure rfl) ?_
  refine w_nil ?_
  refine then_n ?_
  repeat refine wc_seq ?_
  refine wc_condT rfl (fun h57 => ?_) (fun h57 => ?_)
  · simp only [decide_eq_true_eq] at h57
    refine wc_skip ?_
    refine then_n ?_
    repeat refine wc_seq ?_
    refine wc_block ?_
    obtain ⟨y, hy⟩ : ∃ y, (tnd l)[k]? = some y := ⟨_, List.getElem?_eq_getElem (by rw [tnd_len]; omega)⟩
    have hLk := hM.reaB (k := k) (by omega)
    have hnp := isNop_get hy
    refine wc_region ?_
    refine w_val rfl rfl (op_pure rfl) ?_
    refine w_val rfl rfl (op_pure rfl) ?_
    refine w_val rfl rfl (op_pure rfl) ?_
    refine w_val rfl rfl (op_pure rfl) ?_
    refine w_val rfl rfl (op_idxF rfl rfl (natA_cast _ _) rfl rfl rfl rfl (hS.row 1 rfl) (by omega)) ?_
    refine w_val rfl rfl (op_load rfl rfl (Row.mk_pt (hS.row 1 rfl) (by assumption)) rfl) ?_
    refine w_val rfl rfl (op_pure rfl) ?_
    refine w_split (i := 66) rfl (fun h66 => ?_) (fun h66 => ?_)
    · skip
      refine w_val rfl rfl (op_pure rfl) ?_
      refine w_val rfl rfl (op_pure rfl) ?_
      refine w_val rfl rfl (op_idxF rfl rfl (natA_cast _ _) rfl rfl rfl rfl (hS.row 0 rfl) (by omega)) ?_
      refine w_val rfl rfl (op_fld rfl rfl rfl rfl (by decide) (Row.mk_pt (hS.row 0 rfl) hy) (Nat.le_of_ble_eq_true rfl)) ?_
      refine w_val rfl rfl (op_load rfl rfl ((Row.mk_pt (hS.row 0 rfl) hy).fld _ (Nat.le_of_ble_eq_true rfl)) rfl) ?_
      refine w_val rfl rfl (op_pure rfl) ?_
      refine w_val rfl rfl (op_pure rfl) ?_
      refine w_val rfl rfl (op_idxF rfl rfl (natA_cast _ _) rfl rfl rfl rfl (hS.row 2 rfl) (by omega)) ?_
      refine ws_storeE 2 hS rfl rfl rfl rfl rfl rfl rfl (by rfl) (by (simp; omega)) ?_
      rintro z hS
      have hS : SH _ [_, _, _] z := hS
      have hK := hS.K
      refine w_nil ?_
      refine out_n ?_
      refine then_n ?_
      refine wc_region ?_
      refine w_val rfl rfl (op_pure rfl) ?_
      refine w_val rfl rfl (op_add rfl rfl (by unfold In64; omega)) ?_
      refine w_val rfl rfl (op_pure rfl) ?_
      refine w_nil ?_
      have hS : SH s [rowC ov 2 ((tnd l).map inC), rowC rv 1 (L.map bC), rowC tv 1 ((TT.set k (y.op != 42)).map bC)] z := by rw [List.map_set]; exact hS
      exact round_n _ _ (by omega) (Sub.cons rfl (Sub.cons rfl (Sub.cons rfl (Sub.cons rfl (Sub.cons rfl (Sub.nil _)))))) ⟨k + 1, _, rfl, by omega, rfl, hS, by rw [List.length_set]; exact hTl, fun c hc => by
        rw [List.getElem?_set]
        by_cases e : k = c
        · subst e; rw [if_pos rfl, if_pos (by omega), hnp, h66, Bool.true_and] <;> rfl
        · rw [if_neg e]; exact hT c (by omega)⟩
    skip
    refine w_off rfl rfl ?_
    refine w_off rfl rfl ?_
    refine w_off rfl rfl ?_
    refine w_off rfl rfl ?_
    refine w_off rfl rfl ?_
    refine w_off rfl rfl ?_
    refine w_val rfl rfl (op_pure rfl) ?_
    refine w_val rfl rfl (op_idxF rfl rfl (natA_cast _ _) rfl rfl rfl rfl (hS.row 2 rfl) (by omega)) ?_
    refine ws_storeE 2 hS rfl rfl rfl rfl rfl rfl rfl (by rfl) (by (simp; omega)) ?_
    rintro z hS
    have hS : SH _ [_, _, _] z := hS
    have hK := hS.K
    refine w_nil ?_
    refine out_n ?_
    refine then_n ?_
    refine wc_region ?_
    refine w_val rfl rfl (op_pure rfl) ?_
    refine w_val rfl rfl (op_add rfl rfl (by unfold In64; omega)) ?_
    refine w_val rfl rfl (op_pure rfl) ?_
    refine w_nil ?_
    have hS : SH s [rowC ov 2 ((tnd l).map inC), rowC rv 1 (L.map bC), rowC tv 1 ((TT.set k false).map bC)] z := by rw [List.map_set]; exact hS
    exact round_n _ _ (by omega) (Sub.cons rfl (Sub.cons rfl (Sub.cons rfl (Sub.cons rfl (Sub.cons rfl (Sub.nil _)))))) ⟨k + 1, _, rfl, by omega, rfl, hS, by rw [List.length_set]; exact hTl, fun c hc => by
      rw [List.getElem?_set]
      by_cases e : k = c
      · subst e; rw [if_pos rfl, if_pos (by omega), hnp, h66, Bool.false_and] <;> rfl
      · rw [if_neg e]; exact hT c (by omega)⟩
  simp only [decide_eq_false_iff_not] at h57
  obtain rfl : k = l.length := by omega
  have hT0 : ∀ c, Tk TT c ↔ (c < l.length ∧ reaB l c = true ∧ isNop l c = false) ∨ ∃ (j : Nat) (y : InstrL), j < 0 ∧ (tnd l)[j]? = some y ∧ reaB l j = true ∧ branchI y = true ∧ y.a = (c : Int) := fun c => by
    unfold Tk
    constructor
    · intro h
      have hc := (List.getElem?_eq_some_iff.1 h).1
      have := hT c (by omega)
      rw [h] at this
      have := (Option.some.inj this).symm
      simp only [Bool.and_eq_true, Bool.not_eq_true'] at this
      exact .inl ⟨by omega, this⟩
    · rintro (⟨h1, h2, h3⟩ | ⟨j, y, h, _⟩)
      · rw [hT c h1, h2, h3]; rfl
      · omega
  refine wc_exit ?_
  repeat first | refine then_x ?_ | refine round_x ?_ | refine cut_x ?_ | refine out_x' (by decide) ?_
  refine out_x ?_
  refine then_n ?_
  repeat refine wc_seq ?_
  refine wc_region ?_
  refine w_val rfl rfl (op_pure rfl) ?_
  refine w_nil ?_
  refine then_n ?_
  repeat refine wc_seq ?_
  refine wc_block ?_
  refine wc_loop_at (fun jj m z => ∃ (k : Nat) (TT : List Bool), jj = l.length - k ∧ k ≤ l.length ∧ m = [(4, .int .i64 (l.length : Nat)), (5, ov), (8, rv), (9, tv), (11, .int .i64 (k : Nat))] ∧ SH s [rowC ov 2 ((tnd l).map inC), rowC rv 1 (L.map bC), rowC tv 1 (TT.map bC)] z ∧ TT.length = l.length ∧ ∀ c, Tk TT c ↔ (c < l.length ∧ reaB l c = true ∧ isNop l c = false) ∨ ∃ (j : Nat) (y : InstrL), j < k ∧ (tnd l)[j]? = some y ∧ reaB l j = true ∧ branchI y = true ∧ y.a = (c : Int)) l.length
    [(4, .int .i64 (l.length : Nat)), (5, ov), (8, rv), (9, tv), (11, .int .i64 ((0 : Nat) : Int))] (Sub.cons rfl (Sub.cons rfl (Sub.cons rfl (Sub.cons rfl (Sub.cons rfl (Sub.nil _)))))) ⟨0, TT, by simp, by simp, rfl, hS, hTl, hT0⟩ ?_
  clear hS hK
  rintro jj m z ⟨k, TT, rfl, hk, rfl, hS, hTl, hT⟩
  have hK := hS.K
  repeat refine wc_seq ?_
  refine wc_region ?_
  refine w_val rfl rfl (op_pure rfl) ?_
  refine w_val rfl rfl (op_pure rfl) ?_
  refine w_val rfl rfl (op_pure rfl) ?_
  refine w_nil ?_
  refine then_n ?_
  repeat refine wc_seq ?_
  refine wc_condT rfl (fun h77 => ?_) (fun h77 => ?_)
  · simp only [decide_eq_true_eq] at h77
    refine wc_skip ?_
    refine then_n ?_
    repeat refine wc_seq ?_
    refine wc_block ?_
    repeat refine wc_seq ?_
    obtain ⟨y, hy⟩ : ∃ y, (tnd l)[k]? = some y := ⟨_, List.getElem?_eq_getElem (by rw [tnd_len]; omega)⟩
    have hnp := isNop_get hy
    obtain ⟨tb, htb⟩ : ∃ b, TT[k]? = some b := ⟨_, List.getElem?_eq_getElem (by omega)⟩
    have hre : tb = true → reaB l k = true := fun e => by
      subst e
      rcases (hT k).1 htb with ⟨-, h2, -⟩ | ⟨j, y, h2, h3, h4, h5, h6⟩
      · exact h2
      · exact tgt_reached hR h3 h4 h5 h6
    have hno : tb = false → branchI y = true → reaB l k = false := fun e hb => by
      subst e
      cases er : reaB l k with
      | false => rfl
      | true =>
        have hn : isNop l k = false := by rw [hnp]; rcases branchI_iff.1 hb with e | e <;> rw [e] <;> rfl
        exact (not_Tk htb ((hT k).2 (.inl ⟨by omega, er, hn⟩))).elim
    refine wc_region ?_
    refine w_val rfl rfl (op_pure rfl) ?_
    refine w_val rfl rfl (op_pure rfl) ?_
    refine w_val rfl rfl (op_idxF rfl rfl (natA_cast _ _) rfl rfl rfl rfl (hS.row 0 rfl) (by omega)) ?_
    refine w_val rfl rfl (op_load rfl rfl (Row.mk_pt (hS.row 0 rfl) (by assumption)) rfl) ?_
    refine ws_alloc hS rfl rfl rfl rfl ?_
    rintro p3 z hS hk
    have hS : SH _ [_, _, _, _] z := hS
    have hK := hS.K
    refine ws_store 3 hS rfl rfl rfl rfl rfl rfl (by rfl) (Nat.le_of_ble_eq_true rfl) ?_
    rintro z hS
    have hS : SH _ [_, _, _, _] z := hS
    have hK := hS.K
    refine w_nil ?_
    refine then_n ?_
    repeat refine wc_seq ?_
    refine wc_region ?_
    refine w_val rfl rfl (op_pure rfl) ?_
    refine w_val rfl rfl (op_pure rfl) ?_
    refine w_val rfl rfl (op_idxF rfl rfl (natA_cast _ _) rfl rfl rfl rfl (hS.row 2 rfl) (by omega)) ?_
    refine w_val rfl rfl (op_load rfl rfl (Row.mk_pt (hS.row 2 rfl) (by assumption)) rfl) ?_
    refine w_val rfl rfl (op_pure rfl) ?_
    refine w_split (i := 88) rfl (fun h88 => ?_) (fun h88 => ?_)
    · skip
      refine w_val rfl rfl (op_fldP rfl rfl rfl rfl (by decide)) ?_
      refine w_val rfl rfl (op_loadC 3 hS rfl rfl rfl (Nat.le_of_ble_eq_true rfl) rfl) ?_
      refine w_val rfl rfl (op_pure rfl) ?_
      refine w_val rfl rfl (op_pure rfl) ?_
      refine w_split (i := 92) rfl (fun h92 => ?_) (fun h92 => ?_)
      · simp only [beq_iff_eq] at h92
        refine w_off rfl rfl ?_
        refine w_off rfl rfl ?_
        refine w_off rfl rfl ?_
        refine w_val rfl rfl (op_pure rfl) ?_
        refine w_val rfl rfl (op_pure rfl) ?_
        refine w_nil ?_
        refine then_n ?_
        refine wc_cond_t rfl ?_
        have hbr : branchI y = true := by first | exact branch43 (by assumption) | exact branch44 (by assumption)
        obtain ⟨hy0, hyn⟩ := tnd_in hR (List.mem_of_getElem? hy) hbr
        obtain ⟨b, hb⟩ : ∃ b : Nat, y.a = b := ⟨y.a.toNat, by omega⟩
        have hbl : b < l.length := by omega
        refine wc_region ?_
        refine w_val rfl rfl (op_pure rfl) ?_
        refine w_val rfl rfl (op_fldP rfl rfl rfl rfl (by decide)) ?_
        refine w_val rfl rfl (op_loadC (v := .int .i64 (b : Nat)) 3 hS rfl rfl rfl (Nat.le_of_ble_eq_true rfl) (by rw [← hb]; rfl)) ?_
        refine w_val rfl rfl (op_idxF rfl rfl (natA_cast _ _) rfl rfl rfl rfl (hS.row 2 rfl) (by omega)) ?_
        refine ws_storeE 2 hS rfl rfl rfl rfl rfl rfl rfl (by rfl) (by (simp; omega)) ?_
        rintro z hS
        have hS : SH _ [_, _, _, _] z := hS
        have hK := hS.K
        refine w_nil ?_
        refine out_n ?_
        refine then_n ?_
        refine wc_region ?_
        refine w_val rfl rfl (op_pure rfl) ?_
        refine w_val rfl rfl (op_add rfl rfl (by unfold In64; omega)) ?_
        refine w_val rfl rfl (op_pure rfl) ?_
        refine w_nil ?_
        have hS : SH s [rowC ov 2 ((tnd l).map inC), rowC rv 1 (L.map bC), rowC tv 1 ((TT.set b true).map bC)] z := by rw [List.map_set]; exact hS.sel [0, 1, 2] rfl (by decide)
        exact round_n _ _ (by omega) (Sub.cons rfl (Sub.cons rfl (Sub.cons rfl (Sub.cons rfl (Sub.cons rfl (Sub.nil _)))))) ⟨k + 1, TT.set b true, rfl, by omega, rfl, hS, by rw [List.length_set]; exact hTl, fun c => by
          rw [Tk_set (by omega), hT]
          constructor
          · rintro (rfl | h | ⟨j, y, h1, h2⟩)
            · exact .inr ⟨k, y, by omega, hy, hre h88, hbr, hb⟩
            · exact .inl h
            · exact .inr ⟨j, y, by omega, h2⟩
          · rintro (h | ⟨j, y', h1, h2, h3, h4, h5⟩)
            · exact .inr (.inl h)
            · rcases Nat.lt_succ_iff_lt_or_eq.1 h1 with h1 | rfl
              · exact .inr (.inr ⟨j, y', h1, h2, h3, h4, h5⟩)
              · rw [hy] at h2; cases h2
                exact .inl (by omega)⟩
      simp only [beq_eq_false_iff_ne, ne_eq] at h92
      refine w_val rfl rfl (op_fldP rfl rfl rfl rfl (by decide)) ?_
      refine w_val rfl rfl (op_loadC 3 hS rfl rfl rfl (Nat.le_of_ble_eq_true rfl) rfl) ?_
      refine w_val rfl rfl (op_pure rfl) ?_
      refine w_val rfl rfl (op_pure rfl) ?_
      refine w_val rfl rfl (op_pure rfl) ?_
      refine w_nil ?_
      refine then_n ?_
      refine wc_condT rfl (fun h97 => ?_) (fun h97 => ?_)
      · simp only [beq_iff_eq] at h97
        have hbr : branchI y = true := by first | exact branch43 (by assumption) | exact branch44 (by assumption)
        obtain ⟨hy0, hyn⟩ := tnd_in hR (List.mem_of_getElem? hy) hbr
        obtain ⟨b, hb⟩ : ∃ b : Nat, y.a = b := ⟨y.a.toNat, by omega⟩
        have hbl : b < l.length := by omega
        refine wc_region ?_
        refine w_val rfl rfl (op_pure rfl) ?_
        refine w_val rfl rfl (op_fldP rfl rfl rfl rfl (by decide)) ?_
        refine w_val rfl rfl (op_loadC (v := .int .i64 (b : Nat)) 3 hS rfl rfl rfl (Nat.le_of_ble_eq_true rfl) (by rw [← hb]; rfl)) ?_
        refine w_val rfl rfl (op_idxF rfl rfl (natA_cast _ _) rfl rfl rfl rfl (hS.row 2 rfl) (by omega)) ?_
        refine ws_storeE 2 hS rfl rfl rfl rfl rfl rfl rfl (by rfl) (by (simp; omega)) ?_
        rintro z hS
        have hS : SH _ [_, _, _, _] z := hS
        have hK := hS.K
        refine w_nil ?_
        refine out_n ?_
        refine then_n ?_
        refine wc_region ?_
        refine w_val rfl rfl (op_pure rfl) ?_
        refine w_val rfl rfl (op_add rfl rfl (by unfold In64; omega)) ?_
        refine w_val rfl rfl (op_pure rfl) ?_
        refine w_nil ?_
        have hS : SH s [rowC ov 2 ((tnd l).map inC), rowC rv 1 (L.map bC), rowC tv 1 ((TT.set b true).map bC)] z := by rw [List.map_set]; exact hS.sel [0, 1, 2] rfl (by decide)
        exact round_n _ _ (by omega) (Sub.cons rfl (Sub.cons rfl (Sub.cons rfl (Sub.cons rfl (Sub.cons rfl (Sub.nil _)))))) ⟨k + 1, TT.set b true, rfl, by omega, rfl, hS, by rw [List.length_set]; exact hTl, fun c => by
          rw [Tk_set (by omega), hT]
          constructor
          · rintro (rfl | h | ⟨j, y, h1, h2⟩)
            · exact .inr ⟨k, y, by omega, hy, hre h88, hbr, hb⟩
            · exact .inl h
            · exact .inr ⟨j, y, by omega, h2⟩
          · rintro (h | ⟨j, y', h1, h2, h3, h4, h5⟩)
            · exact .inr (.inl h)
            · rcases Nat.lt_succ_iff_lt_or_eq.1 h1 with h1 | rfl
              · exact .inr (.inr ⟨j, y', h1, h2, h3, h4, h5⟩)
              · rw [hy] at h2; cases h2
                exact .inl (by omega)⟩
      simp only [beq_eq_false_iff_ne, ne_eq] at h97
      refine wc_skip ?_
      refine out_n ?_
      refine then_n ?_
      refine wc_region ?_
      refine w_val rfl rfl (op_pure rfl) ?_
      refine w_val rfl rfl (op_add rfl rfl (by unfold In64; omega)) ?_
      refine w_val rfl rfl (op_pure rfl) ?_
      refine w_nil ?_
      exact round_n _ _ (by omega) (Sub.cons rfl (Sub.cons rfl (Sub.cons rfl (Sub.cons rfl (Sub.cons rfl (Sub.nil _)))))) ⟨k + 1, TT, rfl, by omega, rfl, hS.sel [0, 1, 2] rfl (by decide), hTl, fun c => by
        rw [hT]
        constructor
        · rintro (h | ⟨j, y, h1, h2⟩)
          · exact .inl h
          · exact .inr ⟨j, y, by omega, h2⟩
        · rintro (h | ⟨j, y', h1, h2, h3, h4, h5⟩)
          · exact .inl h
          · rcases Nat.lt_succ_iff_lt_or_eq.1 h1 with h1 | rfl
            · exact .inr ⟨j, y', h1, h2, h3, h4, h5⟩
            · rw [hy] at h2; cases h2
              rw [branch_no h92 h97] at h4; cases h4⟩
    skip
    refine w_off rfl rfl ?_
    refine w_off rfl rfl ?_
    refine w_off rfl rfl ?_
    refine w_off rfl rfl ?_
    refine w_off rfl rfl ?_
    refine w_off rfl rfl ?_
    refine w_off rfl rfl ?_
    refine w_off rfl rfl ?_
    refine w_val rfl rfl (op_pure rfl) ?_
    refine w_nil ?_
    refine then_n ?_
    refine wc_cond_f rfl ?_
    refine wc_skip ?_
    refine out_n ?_
    refine then_n ?_
    refine wc_region ?_
    refine w_val rfl rfl (op_pure rfl) ?_
    refine w_val rfl rfl (op_add rfl rfl (by unfold In64; omega)) ?_
    refine w_val rfl rfl (op_pure rfl) ?_
    refine w_nil ?_
    exact round_n _ _ (by omega) (Sub.cons rfl (Sub.cons rfl (Sub.cons rfl (Sub.cons rfl (Sub.cons rfl (Sub.nil _)))))) ⟨k + 1, TT, rfl, by omega, rfl, hS.sel [0, 1, 2] rfl (by decide), hTl, fun c => by
      rw [hT]
      constructor
      · rintro (h | ⟨j, y, h1, h2⟩)
        · exact .inl h
        · exact .inr ⟨j, y, by omega, h2⟩
      · rintro (h | ⟨j, y', h1, h2, h3, h4, h5⟩)
        · exact .inl h
        · rcases Nat.lt_succ_iff_lt_or_eq.1 h1 with h1 | rfl
          · exact .inr ⟨j, y', h1, h2, h3, h4, h5⟩
          · rw [hy] at h2; cases h2
            rw [hno h88 h4] at h3; cases h3⟩
  simp only [decide_eq_false_iff_not] at h77
  obtain rfl : k = l.length := by omega
  have hTS : ∀ c, c < l.length → TT[c]? = some (stays l c) := fun c hc => by
    obtain ⟨b, hb⟩ : ∃ b, TT[c]? = some b := ⟨_, List.getElem?_eq_getElem (by omega)⟩
    rw [hb]
    congr 1
    have h1 := hT c
    unfold Tk at h1
    rw [hb] at h1
    rw [Bool.eq_iff_iff]
    unfold stays
    simp only [Bool.and_eq_true, Bool.or_eq_true, Bool.not_eq_true']
    constructor
    · intro e
      subst e
      rcases h1.1 rfl with ⟨-, h2, h3⟩ | ⟨j, y, h2, h3, h4, h5, h6⟩
      · exact ⟨h2, .inl h3⟩
      · exact ⟨tgt_reached hR h3 h4 h5 h6, .inr (tgt_iff.2 ⟨j, y, h3, h4, h5, h6⟩)⟩
    · rintro ⟨h2, h3 | h3⟩
      · exact Option.some.inj (h1.2 (.inl ⟨hc, h2, h3⟩))
      · obtain ⟨j, y, h4, h5, h6, h7⟩ := tgt_iff.1 h3
        exact Option.some.inj (h1.2 (.inr ⟨j, y, by have := (List.getElem?_eq_some_iff.1 h4).1; omega, h4, h5, h6, h7⟩))
  refine wc_exit ?_
  repeat first | refine then_x ?_ | refine round_x ?_ | refine cut_x ?_ | refine out_x' (by decide) ?_
  refine out_x ?_
  refine then_n ?_
  repeat refine wc_seq ?_
  refine wc_region ?_
  refine w_val rfl rfl (op_pure rfl) ?_
  refine w_nil ?_
  refine then_n ?_
  repeat refine wc_seq ?_
  have hS : SH s [rowC ov 2 ((tnd l).map inC), rowC rv 1 (L.map bC), rowC tv 1 (TT.map bC), rowC .nils 1 ((tI (oldN l 0)).map iC)] z := hS.nil 1
  refine wc_region ?_
  refine w_val rfl rfl (op_pure rfl) ?_
  refine w_nil ?_
  refine then_n ?_
  repeat refine wc_seq ?_
  refine wc_block ?_
  refine wc_loop_at (fun jj m z => ∃ (k : Nat) (o : AV), jj = l.length - k ∧ k ≤ l.length ∧ m = [(4, .int .i64 (l.length : Nat)), (5, ov), (8, rv), (9, tv), (13, o), (14, .int .i64 (k : Nat))] ∧ SH s [rowC ov 2 ((tnd l).map inC), rowC rv 1 (L.map bC), rowC tv 1 (TT.map bC), rowC o 1 ((tI (oldN l k)).map iC)] z) l.length
    [(4, .int .i64 (l.length : Nat)), (5, ov), (8, rv), (9, tv), (13, .nils), (14, .int .i64 ((0 : Nat) : Int))] (Sub.cons rfl (Sub.cons rfl (Sub.cons rfl (Sub.cons rfl (Sub.cons rfl (Sub.cons rfl (Sub.nil _))))))) ⟨0, .nils, by simp, by simp, rfl, hS⟩ ?_
  clear hS hK
  rintro jj m z ⟨k, o, rfl, hk, rfl, hS⟩
  have hK := hS.K
  have hol := oldN_len l k
  have hotl := tI_len (oldN l k)
  repeat refine wc_seq ?_
  refine wc_region ?_
  refine w_val rfl rfl (op_pure rfl) ?_
  refine w_val rfl rfl (op_pure rfl) ?_
  refine w_val rfl rfl (op_pure rfl) ?_
  refine w_nil ?_
  refine then_n ?_
  repeat refine wc_seq ?_
  refine wc_condT rfl (fun h104 => ?_) (fun h104 => ?_)
  · simp only [decide_eq_true_eq] at h104
    refine wc_skip ?_
    refine then_n ?_
    repeat refine wc_seq ?_
    refine wc_block ?_
    repeat refine wc_seq ?_
    have hSk := hTS k (by omega)
    refine wc_region ?_
    refine w_val rfl rfl (op_pure rfl) ?_
    refine w_val rfl rfl (op_pure rfl) ?_
    refine w_val rfl rfl (op_idxF rfl rfl (natA_cast _ _) rfl rfl rfl rfl (hS.row 2 rfl) (by omega)) ?_
    refine w_val rfl rfl (op_load rfl rfl (Row.mk_pt (hS.row 2 rfl) (by assumption)) rfl) ?_
    refine w_nil ?_
    refine then_n ?_
    refine wc_condT rfl (fun h110 => ?_) (fun h110 => ?_)
    · skip
      refine wc_region ?_
      refine w_val rfl rfl (op_pure rfl) ?_
      refine w_val rfl rfl (op_pure rfl) ?_
      refine ws_lit1 hS rfl rfl rfl rfl rfl rfl rfl rfl (by decide) (by decide) rfl (by rfl) rfl ?_
      rintro lt113 z hS hk hlt113
      have hK := hS.K
      refine ws_append 3 hS rfl rfl rfl rfl rfl rfl rfl rfl rfl rfl rfl (by decide) (hlt113) (by (simp only [List.length_map, List.length_nil, List.length_cons, maxBytes]; omega)) (by (simp only [List.length_map, List.length_nil, List.length_cons, maxBytes]; omega)) ?_
      rintro at114 z hS
      have hS : SH _ [_, _, _, _] z := hS
      have hK := hS.K
      refine w_val rfl rfl (op_pure rfl) ?_
      refine w_nil ?_
      refine out_n ?_
      refine then_n ?_
      refine wc_region ?_
      refine w_val rfl rfl (op_pure rfl) ?_
      refine w_val rfl rfl (op_add rfl rfl (by unfold In64; omega)) ?_
      refine w_val rfl rfl (op_pure rfl) ?_
      refine w_nil ?_
      have hS : SH s [rowC ov 2 ((tnd l).map inC), rowC rv 1 (L.map bC), rowC tv 1 (TT.map bC), rowC at114 1 ((tI (oldN l (k + 1))).map iC)] z := by rw [oldN_yes h110, tI_app, List.map_append]; exact hS
      exact round_n _ _ (by omega) (Sub.cons rfl (Sub.cons rfl (Sub.cons rfl (Sub.cons rfl (Sub.cons rfl (Sub.cons rfl (Sub.nil _))))))) ⟨k + 1, at114, rfl, by omega, rfl, hS⟩
    skip
    refine wc_skip ?_
    refine out_n ?_
    refine then_n ?_
    refine wc_region ?_
    refine w_val rfl rfl (op_pure rfl) ?_
    refine w_val rfl rfl (op_add rfl rfl (by unfold In64; omega)) ?_
    refine w_val rfl rfl (op_pure rfl) ?_
    refine w_nil ?_
    have hS : SH s [rowC ov 2 ((tnd l).map inC), rowC rv 1 (L.map bC), rowC tv 1 (TT.map bC), rowC o 1 ((tI (oldN l (k + 1))).map iC)] z := by rw [oldN_no h110]; exact hS
    exact round_n _ _ (by omega) (Sub.cons rfl (Sub.cons rfl (Sub.cons rfl (Sub.cons rfl (Sub.cons rfl (Sub.cons rfl (Sub.nil _))))))) ⟨k + 1, o, rfl, by omega, rfl, hS⟩
  simp only [decide_eq_false_iff_not] at h104
  obtain rfl : k = l.length := by omega
  refine wc_exit ?_
  repeat first | refine then_x ?_ | refine round_x ?_ | refine cut_x ?_ | refine out_x' (by decide) ?_
  refine out_x ?_
  refine then_n ?_
  repeat refine wc_seq ?_
  refine wc_region ?_
  refine w_val rfl rfl (op_pure rfl) ?_
  refine w_nil ?_
  refine then_n ?_
  repeat refine wc_seq ?_
  have hS : SH s [rowC ov 2 ((tnd l).map inC), rowC rv 1 (L.map bC), rowC tv 1 (TT.map bC), rowC o 1 ((tI (oldN l l.length)).map iC), rowC .nils 2 (((codeL l).take 0).map inC)] z := hS.nil 2
  refine wc_region ?_
  refine w_val rfl rfl (op_pure rfl) ?_
  refine w_nil ?_
  refine then_n ?_
  repeat refine wc_seq ?_
  refine wc_block ?_
  refine wc_loop_at (fun jj m z => ∃ (k : Nat) (xv : AV), jj = (tI (oldN l l.length)).length - k ∧ k ≤ (tI (oldN l l.length)).length ∧ m = [(5, ov), (13, o), (15, xv), (16, .int .i64 (k : Nat))] ∧ SH s [rowC ov 2 ((tnd l).map inC), rowC rv 1 (L.map bC), rowC tv 1 (TT.map bC), rowC o 1 ((tI (oldN l l.length)).map iC), rowC xv 2 (((codeL l).take k).map inC)] z) (tI (oldN l l.length)).length
    [(5, ov), (13, o), (15, .nils), (16, .int .i64 ((0 : Nat) : Int))] (Sub.cons rfl (Sub.cons rfl (Sub.cons rfl (Sub.cons rfl (Sub.nil _))))) ⟨0, .nils, by simp, by simp, rfl, hS⟩ ?_
  clear hS hK
  rintro jj m z ⟨k, xv, rfl, hk, rfl, hS⟩
  have hK := hS.K
  have hcl : ((codeL l).take k).length ≤ 2097152 := by rw [List.length_take]; omega
  repeat refine wc_seq ?_
  refine wc_region ?_
  refine w_val rfl rfl (op_pure rfl) ?_
  refine w_val rfl rfl (op_pure rfl) ?_
  refine w_val rfl rfl (op_len rfl rfl rfl rfl rfl (hS.row 3 rfl).slenF) ?_
  refine w_val rfl rfl (op_pure rfl) ?_
  refine w_nil ?_
  refine then_n ?_
  repeat refine wc_seq ?_
  refine wc_condT rfl (fun h118 => ?_) (fun h118 => ?_)
  · simp only [decide_eq_true_eq] at h118
    refine wc_skip ?_
    refine then_n ?_
    repeat refine wc_seq ?_
    refine wc_block ?_
    repeat refine wc_seq ?_
    obtain ⟨a, ha⟩ : ∃ a, (oldN l l.length)[k]? = some a := ⟨_, List.getElem?_eq_getElem (by rw [← tI_len]; omega)⟩
    have hta := tI_get ha
    obtain ⟨hal, hst⟩ := oldN_mem (List.mem_of_getElem? ha)
    have hre : reaB l a = true := by unfold stays at hst; rw [Bool.and_eq_true] at hst; exact hst.1
    obtain ⟨y, hy⟩ : ∃ y, (tnd l)[a]? = some y := ⟨_, List.getElem?_eq_getElem (by rw [tnd_len]; omega)⟩
    refine wc_region ?_
    refine w_val rfl rfl (op_pure rfl) ?_
    refine w_val rfl rfl (op_pure rfl) ?_
    refine w_val rfl rfl (op_pure rfl) ?_
    refine w_val rfl rfl (op_idxF rfl rfl (natA_cast _ _) rfl rfl rfl rfl (hS.row 3 rfl) (by omega)) ?_
    refine w_val rfl rfl (op_load rfl rfl (Row.mk_pt (hS.row 3 rfl) (by assumption)) rfl) ?_
    refine w_val rfl rfl (op_idxF rfl rfl (natA_cast _ _) rfl rfl rfl rfl (hS.row 0 rfl) (by omega)) ?_
    refine w_val rfl rfl (op_load rfl rfl (Row.mk_pt (hS.row 0 rfl) (by assumption)) rfl) ?_
    refine ws_alloc hS rfl rfl rfl rfl ?_
    rintro p5 z hS hk
    have hS : SH _ [_, _, _, _, _, _] z := hS
    have hK := hS.K
    refine ws_store 5 hS rfl rfl rfl rfl rfl rfl (by rfl) (Nat.le_of_ble_eq_true rfl) ?_
    rintro z hS
    have hS : SH _ [_, _, _, _, _, _] z := hS
    have hK := hS.K
    refine w_nil ?_
    refine then_n ?_
    repeat refine wc_seq ?_
    refine wc_region ?_
    refine w_val rfl rfl (op_fldP rfl rfl rfl rfl (by decide)) ?_
    refine w_val rfl rfl (op_loadC 5 hS rfl rfl rfl (Nat.le_of_ble_eq_true rfl) rfl) ?_
    refine w_val rfl rfl (op_pure rfl) ?_
    refine w_val rfl rfl (op_pure rfl) ?_
    refine w_split (i := 131) rfl (fun h131 => ?_) (fun h131 => ?_)
    · simp only [beq_iff_eq] at h131
      refine w_off rfl rfl ?_
      refine w_off rfl rfl ?_
      refine w_off rfl rfl ?_
      refine w_val rfl rfl (op_pure rfl) ?_
      refine w_nil ?_
      refine then_n ?_
      repeat refine wc_seq ?_
      refine wc_cond_t rfl ?_
      repeat refine wc_seq ?_
      have hbr : branchI y = true := by first | exact branch43 (by assumption) | exact branch44 (by assumption)
      obtain ⟨hy0, hyn⟩ := tnd_in hR (List.mem_of_getElem? hy) hbr
      obtain ⟨b, hb⟩ : ∃ b : Nat, y.a = b := ⟨y.a.toNat, by omega⟩
      have hbl : b < l.length := by omega
      have hpg := place_get hbl (tgt_stays hR (tgt_iff.2 ⟨a, y, hy, hre, hbr, hb⟩))
      have hpl := (List.getElem?_eq_some_iff.1 hpg).1
      have hfi : finI l y = ⟨y.op, (place l b : Int)⟩ := by unfold finI; rw [if_pos hbr, hb, Int.toNat_natCast]
      refine wc_region ?_
      refine w_val rfl rfl (op_pure rfl) ?_
      refine w_nil ?_
      refine then_n ?_
      refine wc_block ?_
      have hS : SH s [rowC ov 2 ((tnd l).map inC), rowC rv 1 (L.map bC), rowC tv 1 (TT.map bC), rowC o 1 ((tI (oldN l l.length)).map iC), rowC xv 2 (((codeL l).take k).map inC), ptC (.ptr p5 0 0) [.int .i64 y.op, .int .i64 y.a]] z := hS
      refine wc_loop_at (fun jj m z' => ∃ c : Nat, jj = (tI (oldN l l.length)).length - c ∧ c ≤ (tI (oldN l l.length)).length ∧ m = [(5, ov), (13, o), (15, xv), (16, .int .i64 (k : Nat)), (17, .ptr p5 0 0), (18, .int .i64 (c : Nat))] ∧ z = z' ∧ ∀ c', c' < c → (oldN l l.length)[c']? ≠ some b) (tI (oldN l l.length)).length
        [(5, ov), (13, o), (15, xv), (16, .int .i64 (k : Nat)), (17, .ptr p5 0 0), (18, .int .i64 ((0 : Nat) : Int))] (Sub.cons rfl (Sub.cons rfl (Sub.cons rfl (Sub.cons rfl (Sub.cons rfl (Sub.cons rfl (Sub.nil _))))))) ⟨0, by simp, by simp, rfl, rfl, fun c' h => by omega⟩ ?_
      rintro j5 m5 _ ⟨c, rfl, hc, rfl, rfl, hN⟩
      repeat refine wc_seq ?_
      refine wc_region ?_
      refine w_val rfl rfl (op_pure rfl) ?_
      refine w_val rfl rfl (op_pure rfl) ?_
      refine w_val rfl rfl (op_len rfl rfl rfl rfl rfl (hS.row 3 rfl).slenF) ?_
      refine w_val rfl rfl (op_pure rfl) ?_
      refine w_nil ?_
      refine then_n ?_
      repeat refine wc_seq ?_
      refine wc_condT rfl (fun h139 => ?_) (fun h139 => ?_)
      · simp only [decide_eq_true_eq] at h139
        refine wc_skip ?_
        refine then_n ?_
        repeat refine wc_seq ?_
        refine wc_block ?_
        repeat refine wc_seq ?_
        obtain ⟨d, hd⟩ : ∃ d, (oldN l l.length)[c]? = some d := ⟨_, List.getElem?_eq_getElem (by rw [← tI_len]; omega)⟩
        have htd := tI_get hd
        refine wc_draw (fun _ => True) (by kernel_rfl) rfl ?_
        refine wd_val (fun _ => trivial) rfl rfl (op_pure rfl) ?_
        refine wd_val (fun _ => trivial) rfl rfl (op_pure rfl) ?_
        refine wd_val (fun _ => trivial) rfl rfl (op_idxF rfl rfl (natA_cast _ _) rfl rfl rfl rfl (Row.bare (hS.row 3 rfl)) (by omega)) ?_
        refine wd_val (fun _ => trivial) rfl rfl (op_load rfl rfl (Pt.bare (Row.mk_pt (hS.row 3 rfl) htd)) rfl) ?_
        refine wd_val (fun _ => trivial) rfl rfl (op_fldP rfl rfl rfl rfl (by decide)) ?_
        refine wd_val (fun _ => trivial) rfl rfl (op_load rfl rfl (Pt.bare ((hS.pt 5 rfl).at (Nat.le_of_ble_eq_true rfl))) rfl) ?_
        refine wd_val (fun _ => trivial) rfl rfl (op_pure rfl) ?_
        refine wd_nil ?_
        refine then_n ?_
        refine wc_condT rfl (fun h148 => ?_) (fun h148 => ?_)
        · simp only [beq_iff_eq] at h148
          obtain rfl : d = b := by rw [hb] at h148; omega
          obtain rfl : c = place l d := oldN_inj hd hpg
          repeat refine wc_seq ?_
          refine wc_region ?_
          refine w_val rfl rfl (op_pure rfl) ?_
          refine w_val rfl rfl (op_fldP rfl rfl rfl rfl (by decide)) ?_
          refine ws_storeL 5 hS rfl rfl rfl rfl rfl rfl (by rfl) (Nat.le_of_ble_eq_true rfl) ?_
          rintro z hS
          have hS : SH _ [_, _, _, _, _, _] z := hS
          have hK := hS.K
          refine w_nil ?_
          refine then_n ?_
          refine wc_exit ?_
          repeat first | refine then_x ?_ | refine round_x ?_ | refine cut_x ?_ | refine out_x' (by decide) ?_
          refine out_x ?_
          refine then_n ?_
          have hcl : ((codeL l).take k).length ≤ 2097152 := by rw [List.length_take]; omega
          refine wc_region ?_
          refine w_val rfl rfl (op_pure rfl) ?_
          refine w_val rfl rfl (op_loadC 5 hS rfl rfl rfl (Nat.le_of_ble_eq_true rfl) rfl) ?_
          refine ws_lit1 hS rfl rfl rfl rfl rfl rfl rfl rfl (by decide) (by decide) rfl (by rfl) rfl ?_
          rintro lt153 z hS hk hlt153
          have hK := hS.K
          refine ws_append 4 hS rfl rfl rfl rfl rfl rfl rfl rfl rfl rfl rfl (by decide) (hlt153) (by (simp only [List.length_map, List.length_nil, List.length_cons, List.length_take, maxBytes]; omega)) (by (simp only [List.length_map, List.length_nil, List.length_cons, List.length_take, maxBytes]; omega)) ?_
          rintro at154 z hS
          have hS : SH _ [_, _, _, _, _, _] z := hS
          have hK := hS.K
          refine w_val rfl rfl (op_pure rfl) ?_
          refine w_nil ?_
          refine out_n ?_
          refine then_n ?_
          refine wc_region ?_
          refine w_val rfl rfl (op_pure rfl) ?_
          refine w_val rfl rfl (op_add rfl rfl (by unfold In64; omega)) ?_
          refine w_val rfl rfl (op_pure rfl) ?_
          refine w_nil ?_
          have hfin : inC (finI l y) = _ := congrArg inC hfi
          have hS : SH s [rowC ov 2 ((tnd l).map inC), rowC rv 1 (L.map bC), rowC tv 1 (TT.map bC), rowC o 1 ((tI (oldN l l.length)).map iC), rowC at154 2 (((codeL l).take (k + 1)).map inC)] z := by rw [codeL_take ha hy, hfin]; exact hS.sel [0, 1, 2, 3, 4] rfl (by decide)
          exact round_n _ _ (by omega) (Sub.cons rfl (Sub.cons rfl (Sub.cons rfl (Sub.cons rfl (Sub.nil _))))) ⟨k + 1, at154, rfl, by omega, rfl, hS⟩
        simp only [beq_eq_false_iff_ne, ne_eq] at h148
        refine wc_skip ?_
        refine out_n ?_
        refine then_n ?_
        refine wc_region ?_
        refine w_val rfl rfl (op_pure rfl) ?_
        refine w_val rfl rfl (op_add rfl rfl (by unfold In64; omega)) ?_
        refine w_val rfl rfl (op_pure rfl) ?_
        refine w_nil ?_
        exact round_n _ _ (by omega) (Sub.cons rfl (Sub.cons rfl (Sub.cons rfl (Sub.cons rfl (Sub.cons rfl (Sub.cons rfl (Sub.nil _))))))) ⟨c + 1, rfl, by omega, rfl, rfl, fun c' h => (Nat.lt_succ_iff_lt_or_eq.1 h).elim (hN c') (fun e => by subst e; rw [hd]; intro e; cases e; exact h148 hb.symm)⟩
      simp only [decide_eq_false_iff_not] at h139
      exact (hN (place l b) (by have := tI_len (oldN l l.length); omega) hpg).elim
    simp only [beq_eq_false_iff_ne, ne_eq] at h131
    refine w_val rfl rfl (op_fldP rfl rfl rfl rfl (by decide)) ?_
    refine w_val rfl rfl (op_loadC 5 hS rfl rfl rfl (Nat.le_of_ble_eq_true rfl) rfl) ?_
    refine w_val rfl rfl (op_pure rfl) ?_
    refine w_val rfl rfl (op_pure rfl) ?_
    refine w_nil ?_
    refine then_n ?_
    repeat refine wc_seq ?_
    refine wc_condT rfl (fun h135 => ?_) (fun h135 => ?_)
    · simp only [beq_iff_eq] at h135
      repeat refine wc_seq ?_
      have hbr : branchI y = true := by first | exact branch43 (by assumption) | exact branch44 (by assumption)
      obtain ⟨hy0, hyn⟩ := tnd_in hR (List.mem_of_getElem? hy) hbr
      obtain ⟨b, hb⟩ : ∃ b : Nat, y.a = b := ⟨y.a.toNat, by omega⟩
      have hbl : b < l.length := by omega
      have hpg := place_get hbl (tgt_stays hR (tgt_iff.2 ⟨a, y, hy, hre, hbr, hb⟩))
      have hpl := (List.getElem?_eq_some_iff.1 hpg).1
      have hfi : finI l y = ⟨y.op, (place l b : Int)⟩ := by unfold finI; rw [if_pos hbr, hb, Int.toNat_natCast]
      refine wc_region ?_
      refine w_val rfl rfl (op_pure rfl) ?_
      refine w_nil ?_
      refine then_n ?_
      refine wc_block ?_
      have hS : SH s [rowC ov 2 ((tnd l).map inC), rowC rv 1 (L.map bC), rowC tv 1 (TT.map bC), rowC o 1 ((tI (oldN l l.length)).map iC), rowC xv 2 (((codeL l).take k).map inC), ptC (.ptr p5 0 0) [.int .i64 y.op, .int .i64 y.a]] z := hS
      refine wc_loop_at (fun jj m z' => ∃ c : Nat, jj = (tI (oldN l l.length)).length - c ∧ c ≤ (tI (oldN l l.length)).length ∧ m = [(5, ov), (13, o), (15, xv), (16, .int .i64 (k : Nat)), (17, .ptr p5 0 0), (18, .int .i64 (c : Nat))] ∧ z = z' ∧ ∀ c', c' < c → (oldN l l.length)[c']? ≠ some b) (tI (oldN l l.length)).length
        [(5, ov), (13, o), (15, xv), (16, .int .i64 (k : Nat)), (17, .ptr p5 0 0), (18, .int .i64 ((0 : Nat) : Int))] (Sub.cons rfl (Sub.cons rfl (Sub.cons rfl (Sub.cons rfl (Sub.cons rfl (Sub.cons rfl (Sub.nil _))))))) ⟨0, by simp, by simp, rfl, rfl, fun c' h => by omega⟩ ?_
      rintro j5 m5 _ ⟨c, rfl, hc, rfl, rfl, hN⟩
      repeat refine wc_seq ?_
      refine wc_region ?_
      refine w_val rfl rfl (op_pure rfl) ?_
      refine w_val rfl rfl (op_pure rfl) ?_
      refine w_val rfl rfl (op_len rfl rfl rfl rfl rfl (hS.row 3 rfl).slenF) ?_
      refine w_val rfl rfl (op_pure rfl) ?_
      refine w_nil ?_
      refine then_n ?_
      repeat refine wc_seq ?_
      refine wc_condT rfl (fun h139 => ?_) (fun h139 => ?_)
      · simp only [decide_eq_true_eq] at h139
        refine wc_skip ?_
        refine then_n ?_
        repeat refine wc_seq ?_
        refine wc_block ?_
        repeat refine wc_seq ?_
        obtain ⟨d, hd⟩ : ∃ d, (oldN l l.length)[c]? = some d := ⟨_, List.getElem?_eq_getElem (by rw [← tI_len]; omega)⟩
        have htd := tI_get hd
        refine wc_draw (fun _ => True) (by kernel_rfl) rfl ?_
        refine wd_val (fun _ => trivial) rfl rfl (op_pure rfl) ?_
        refine wd_val (fun _ => trivial) rfl rfl (op_pure rfl) ?_
        refine wd_val (fun _ => trivial) rfl rfl (op_idxF rfl rfl (natA_cast _ _) rfl rfl rfl rfl (Row.bare (hS.row 3 rfl)) (by omega)) ?_
        refine wd_val (fun _ => trivial) rfl rfl (op_load rfl rfl (Pt.bare (Row.mk_pt (hS.row 3 rfl) htd)) rfl) ?_
        refine wd_val (fun _ => trivial) rfl rfl (op_fldP rfl rfl rfl rfl (by decide)) ?_
        refine wd_val (fun _ => trivial) rfl rfl (op_load rfl rfl (Pt.bare ((hS.pt 5 rfl).at (Nat.le_of_ble_eq_true rfl))) rfl) ?_
        refine wd_val (fun _ => trivial) rfl rfl (op_pure rfl) ?_
        refine wd_nil ?_
        refine then_n ?_
        refine wc_condT rfl (fun h148 => ?_) (fun h148 => ?_)
        · simp only [beq_iff_eq] at h148
          obtain rfl : d = b := by rw [hb] at h148; omega
          obtain rfl : c = place l d := oldN_inj hd hpg
          repeat refine wc_seq ?_
          refine wc_region ?_
          refine w_val rfl rfl (op_pure rfl) ?_
          refine w_val rfl rfl (op_fldP rfl rfl rfl rfl (by decide)) ?_
          refine ws_storeL 5 hS rfl rfl rfl rfl rfl rfl (by rfl) (Nat.le_of_ble_eq_true rfl) ?_
          rintro z hS
          have hS : SH _ [_, _, _, _, _, _] z := hS
          have hK := hS.K
          refine w_nil ?_
          refine then_n ?_
          refine wc_exit ?_
          repeat first | refine then_x ?_ | refine round_x ?_ | refine cut_x ?_ | refine out_x' (by decide) ?_
          refine out_x ?_
          refine then_n ?_
          have hcl : ((codeL l).take k).length ≤ 2097152 := by rw [List.length_take]; omega
          refine wc_region ?_
          refine w_val rfl rfl (op_pure rfl) ?_
          refine w_val rfl rfl (op_loadC 5 hS rfl rfl rfl (Nat.le_of_ble_eq_true rfl) rfl) ?_
          refine ws_lit1 hS rfl rfl rfl rfl rfl rfl rfl rfl (by decide) (by decide) rfl (by rfl) rfl ?_
          rintro lt153 z hS hk hlt153
          have hK := hS.K
          refine ws_append 4 hS rfl rfl rfl rfl rfl rfl rfl rfl rfl rfl rfl (by decide) (hlt153) (by (simp only [List.length_map, List.length_nil, List.length_cons, List.length_take, maxBytes]; omega)) (by (simp only [List.length_map, List.length_nil, List.length_cons, List.length_take, maxBytes]; omega)) ?_
          rintro at154 z hS
          have hS : SH _ [_, _, _, _, _, _] z := hS
          have hK := hS.K
          refine w_val rfl rfl (op_pure rfl) ?_
          refine w_nil ?_
          refine out_n ?_
          refine then_n ?_
          refine wc_region ?_
          refine w_val rfl rfl (op_pure rfl) ?_
          refine w_val rfl rfl (op_add rfl rfl (by unfold In64; omega)) ?_
          refine w_val rfl rfl (op_pure rfl) ?_
          refine w_nil ?_
          have hfin : inC (finI l y) = _ := congrArg inC hfi
          have hS : SH s [rowC ov 2 ((tnd l).map inC), rowC rv 1 (L.map bC), rowC tv 1 (TT.map bC), rowC o 1 ((tI (oldN l l.length)).map iC), rowC at154 2 (((codeL l).take (k + 1)).map inC)] z := by rw [codeL_take ha hy, hfin]; exact hS.sel [0, 1, 2, 3, 4] rfl (by decide)
          exact round_n _ _ (by omega) (Sub.cons rfl (Sub.cons rfl (Sub.cons rfl (Sub.cons rfl (Sub.nil _))))) ⟨k + 1, at154, rfl, by omega, rfl, hS⟩
        simp only [beq_eq_false_iff_ne, ne_eq] at h148
        refine wc_skip ?_
        refine out_n ?_
        refine then_n ?_
        refine wc_region ?_
        refine w_val rfl rfl (op_pure rfl) ?_
        refine w_val rfl rfl (op_add rfl rfl (by unfold In64; omega)) ?_
        refine w_val rfl rfl (op_pure rfl) ?_
        refine w_nil ?_
        exact round_n _ _ (by omega) (Sub.cons rfl (Sub.cons rfl (Sub.cons rfl (Sub.cons rfl (Sub.cons rfl (Sub.cons rfl (Sub.nil _))))))) ⟨c + 1, rfl, by omega, rfl, rfl, fun c' h => (Nat.lt_succ_iff_lt_or_eq.1 h).elim (hN c') (fun e => by subst e; rw [hd]; intro e; cases e; exact h148 hb.symm)⟩
      simp only [decide_eq_false_iff_not] at h139
      exact (hN (place l b) (by have := tI_len (oldN l l.length); omega) hpg).elim
    simp only [beq_eq_false_iff_ne, ne_eq] at h135
    refine wc_skip ?_
    refine then_n ?_
    have hcl : ((codeL l).take k).length ≤ 2097152 := by rw [List.length_take]; omega
    refine wc_region ?_
    refine w_val rfl rfl (op_pure rfl) ?_
    refine w_val rfl rfl (op_loadC 5 hS rfl rfl rfl (Nat.le_of_ble_eq_true rfl) rfl) ?_
    refine ws_lit1 hS rfl rfl rfl rfl rfl rfl rfl rfl (by decide) (by decide) rfl (by rfl) rfl ?_
    rintro lt153 z hS hk hlt153
    have hK := hS.K
    refine ws_append 4 hS rfl rfl rfl rfl rfl rfl rfl rfl rfl rfl rfl (by decide) (hlt153) (by (simp only [List.length_map, List.length_nil, List.length_cons, List.length_take, maxBytes]; omega)) (by (simp only [List.length_map, List.length_nil, List.length_cons, List.length_take, maxBytes]; omega)) ?_
    rintro at154 z hS
    have hS : SH _ [_, _, _, _, _, _] z := hS
    have hK := hS.K
    refine w_val rfl rfl (op_pure rfl) ?_
    refine w_nil ?_
    refine out_n ?_
    refine then_n ?_
    refine wc_region ?_
    refine w_val rfl rfl (op_pure rfl) ?_
    refine w_val rfl rfl (op_add rfl rfl (by unfold In64; omega)) ?_
    refine w_val rfl rfl (op_pure rfl) ?_
    refine w_nil ?_
    have hfin : inC (finI l y) = _ := congrArg inC (show finI l y = y by unfold finI; rw [if_neg (by rw [branch_no h131 h135]; decide)])
    have hS : SH s [rowC ov 2 ((tnd l).map inC), rowC rv 1 (L.map bC), rowC tv 1 (TT.map bC), rowC o 1 ((tI (oldN l l.length)).map iC), rowC at154 2 (((codeL l).take (k + 1)).map inC)] z := by rw [codeL_take ha hy, hfin]; exact hS.sel [0, 1, 2, 3, 4] rfl (by decide)
    exact round_n _ _ (by omega) (Sub.cons rfl (Sub.cons rfl (Sub.cons rfl (Sub.cons rfl (Sub.nil _))))) ⟨k + 1, at154, rfl, by omega, rfl, hS⟩
  simp only [decide_eq_false_iff_not] at h118
  obtain rfl : k = (tI (oldN l l.length)).length := by omega
  rw [List.take_of_length_le (by unfold codeL; rw [List.length_map, tI_len]; exact Nat.le_refl _)] at hS
  refine wc_exit ?_
  repeat first | refine then_x ?_ | refine round_x ?_ | refine cut_x ?_ | refine out_x' (by decide) ?_
  refine out_x ?_
  refine then_n ?_
  repeat refine wc_seq ?_
  refine wc_region ?_
  refine w_val rfl rfl (op_pure rfl) ?_
  refine w_val rfl rfl (op_pure rfl) ?_
  refine w_val rfl rfl (op_pure rfl) ?_
  refine w_val rfl rfl (op_pure rfl) ?_
  refine w_nil ?_
  refine then_n ?_
  refine wc_ret ?_
  repeat first | refine then_r ?_ | refine out_r ?_ | refine round_r ?_ | refine cut_r ?_ | refine sc_r ?_
  exact ⟨_, rfl, hK, xv, o, rfl, by unfold codeO; rw [if_pos hR]; exact hS.row 4 rfl, by unfold oldO; rw [if_pos hR]; exact hS.row 3 rfl, (fun g hg => (hS.bd 4 rfl g hg).1), fun g hg => (hS.bd 3 rfl g hg).1⟩
end Go.Ab
/- louverlaw26.TrimCode. -/
namespace Go.Ab
open Go.Proofs
theorem SH.add2 {s0 s s' : St} {L : List Chunk} (h : SH s0 L s) (k : Keep [] s s') (c d : Chunk) (hP : c.P s'.h) (hQ : d.P s'.h) (hF : ∀ g, c.F g → s.ctr ≤ g ∧ g < s'.ctr) (hG : ∀ g, d.F g → s.ctr ≤ g ∧ g < s'.ctr) (hcd : ∀ g, c.F g → ¬ d.F g) : SH s0 (L ++ [c] ++ [d]) s' := by
  have hm := h.mov k
  have hc := h.K.ctr
  have key : ∀ (i : Nat) (x : Chunk), (L ++ [c] ++ [d])[i]? = some x → (i < L.length ∧ L[i]? = some x) ∨ (i = L.length ∧ x = c) ∨ (i = L.length + 1 ∧ x = d) := by
    intro i x hi
    rw [List.append_assoc] at hi
    by_cases hl : i < L.length
    · rw [List.getElem?_append_left hl] at hi; exact .inl ⟨hl, hi⟩
    · have h1 := (List.getElem?_eq_some_iff.1 hi).1
      simp only [List.length_append, List.length_cons, List.length_nil] at h1
      rw [List.getElem?_append_right (by omega)] at hi
      by_cases e : i = L.length
      · subst e
        rw [Nat.sub_self] at hi
        simp at hi
        exact .inr (.inl ⟨rfl, hi.symm⟩)
      · obtain rfl : i = L.length + 1 := by omega
        rw [Nat.add_sub_cancel_left] at hi
        simp at hi
        exact .inr (.inr ⟨rfl, hi.symm⟩)
  refine ⟨hm.K, fun i x hi => ?_, fun i j x y hij hi hj g hx hy => ?_⟩
  · rcases key i x hi with ⟨-, h1⟩ | ⟨-, rfl⟩ | ⟨-, rfl⟩
    · exact hm.own i x h1
    · exact ⟨hP, fun g hg => ⟨Nat.le_trans hc (hF g hg).1, (hF g hg).2⟩⟩
    · exact ⟨hQ, fun g hg => ⟨Nat.le_trans hc (hG g hg).1, (hG g hg).2⟩⟩
  · rcases key i x hi with ⟨h0, h1⟩ | ⟨h1, rfl⟩ | ⟨h1, rfl⟩ <;> rcases key j y hj with ⟨k0, k1⟩ | ⟨k1, rfl⟩ | ⟨k1, rfl⟩
    · exact h.dis i j x y hij h1 k1 g hx hy
    · have := (h.own i x h1).2 g hx; have := hF g hy; omega
    · have := (h.own i x h1).2 g hx; have := hG g hy; omega
    · have := (h.own j y k1).2 g hy; have := hF g hx; omega
    · omega
    · exact hcd g hx hy
    · have := (h.own j y k1).2 g hy; have := hG g hx; omega
    · exact hcd g hy hx
    · omega
def lentC (v : AV) (xs : List InstrL) : Chunk := ⟨fun g => g ∈ v.gs, fun h => Lent h 2 inC [.int .i64 (-71), .int .i64 0] v xs, fun k h hY => k.keep h fun g hg hy => hY g hy hg⟩
theorem codeO_len (l : List InstrL) : (codeO l).length ≤ l.length := by
  unfold codeO
  split
  · simp only [List.length_map]; exact oldN_len l l.length
  · exact Nat.zero_le _
theorem oldO_len (l : List InstrL) : (oldO l).length ≤ l.length := by
  unfold oldO
  split
  · rw [tI_len]; exact oldN_len l l.length
  · exact Nat.zero_le _
theorem row_twoC {h : Tr Grp} {a b : AV} {xs ys : List InstrL} (ha : Row h 2 a (xs.map inC)) (hb : Row h 2 b (ys.map inC)) : ∀ p ∈ [(a, xs), (b, ys)], Row h 2 p.1 (p.2.map inC) := by
  intro p hp
  rcases List.mem_cons.1 hp with rfl | hp
  · exact ha
  · rw [List.mem_singleton.1 hp]; exact hb
theorem row_two26 {h : Tr Grp} {a b : AV} {xs ys : List Int} (ha : Row h 1 a (xs.map iC)) (hb : Row h 1 b (ys.map iC)) : ∀ p ∈ [(a, xs), (b, ys)], Row h 1 p.1 (p.2.map iC) := by
  intro p hp
  rcases List.mem_cons.1 hp with rfl | hp
  · exact ha
  · rw [List.mem_singleton.1 hp]; exact hb
set_option maxRecDepth 10000 in
set_option maxHeartbeats 8000000 in
set_option maxRecDepth 10000 in
set_option maxHeartbeats 8000000 in
theorem trimCode_run {s : St} {v : AV} {l : List InstrL} {a : Int} (hok : s.Ok) (hv : Row s.h 2 v (l.map inC)) (hl : l.length ≤ 2097152) :
    CallS Try.prog Tt Kt 4 [v, .int .i64 a] s (fun r _ => r = .bool true) := by
  refine call_of (fn := Try.f4) (nt := 101) Try.func4 rfl rfl rfl ?_
  repeat refine wc_seq ?_
  have hS := SH.start hok
  have hK := hS.K
  refine wc_region ?_
  refine w_val rfl rfl (op_pure rfl) ?_
  refine w_nil ?_
  refine then_n ?_
  repeat refine wc_seq ?_
  refine wc_region ?_
  refine w_val rfl rfl (op_pure rfl) ?_
  refine w_val rfl rfl (op_len rfl rfl rfl rfl rfl hv.slenF) ?_
  refine w_val rfl rfl (op_pure rfl) ?_
  refine w_nil ?_
  refine then_n ?_
  repeat refine wc_seq ?_
  refine wc_condT rfl (fun h15 => ?_) (fun h15 => ?_)
  · skip
    repeat refine wc_seq ?_
    refine wc_region ?_
    refine w_call rfl rfl (op_call rfl rfl rfl rfl) (call_known (b := true) (Q := fun r s' => r = .bool true ∧ s' = _) rfl ⟨rfl, rfl⟩) ?_
    rintro _ _ ⟨rfl, rfl⟩
    refine w_val rfl rfl (op_pure rfl) ?_
    refine w_nil ?_
    refine then_n ?_
    refine wc_ret ?_
    repeat first | refine then_r ?_ | refine out_r ?_ | refine round_r ?_ | refine cut_r ?_ | refine sc_r ?_
    exact ⟨_, rfl, rfl⟩
  simp only [decide_eq_false_iff_not] at h15
  have hl200 : l.length ≤ 200 := by omega
  have hcO := codeO_len l
  have hoO := oldO_len l
  refine wc_skip ?_
  refine then_n ?_
  repeat refine wc_seq ?_
  refine wc_region ?_
  refine w_val rfl rfl (op_pure rfl) ?_
  refine w_call rfl rfl (op_call rfl rfl rfl rfl) (lentCode_ok hK.ok (by omega) (hv.keep0 hK)) ?_
  rintro c z1 ⟨hk, hlc⟩
  have hS := hS.add hk (lentC c l) hlc.1 (fun g hg => ⟨(hlc.2 g hg).1, (hlc.2 g hg).2.1⟩)
  clear hlc
  have hS : SH _ [_] z1 := hS
  have hK := hS.K
  refine w_val rfl rfl (op_pure rfl) ?_
  refine w_nil ?_
  refine then_n ?_
  repeat refine wc_seq ?_
  refine wc_region ?_
  refine w_val rfl rfl (op_pure rfl) ?_
  refine w_call rfl rfl (op_call rfl rfl rfl rfl) (trimCode_ok hK.ok (hS.get 0 rfl).row (hS.get 0 rfl).ng (by omega)) ?_
  rintro _ z1 ⟨hk, x1, o1, rfl, hx, ho, hbx, hbo, hdd, hnx, hno⟩
  have hS := hS.add2 hk (rowC x1 2 ((codeO l).map inC)) (rowC o1 1 ((oldO l).map iC)) ⟨hx, hnx⟩ ⟨ho, hno⟩ (fun g hg => ⟨hbx g hg, hx.lt hk.ok g hg⟩) (fun g hg => ⟨hbo g hg, ho.lt hk.ok g hg⟩) (fun g hg hg' => hdd g hg hg')
  clear hx ho hbx hbo hdd hnx hno
  have hS : SH _ [_, _, _] z1 := hS
  have hK := hS.K
  refine w_val rfl rfl (op_pure rfl) ?_
  refine w_val rfl rfl (op_pure rfl) ?_
  refine w_val rfl rfl (op_pure rfl) ?_
  refine w_val rfl rfl (op_pure rfl) ?_
  refine w_val rfl rfl (op_pure rfl) ?_
  refine w_nil ?_
  refine then_n ?_
  repeat refine wc_seq ?_
  refine wc_region ?_
  refine w_val rfl rfl (op_pure rfl) ?_
  refine w_call rfl rfl (op_call rfl rfl rfl rfl) (trimCode_ok hK.ok (hS.get 0 rfl).row (hS.get 0 rfl).ng (by omega)) ?_
  rintro _ z1 ⟨hk, x2, o2, rfl, hx, ho, hbx, hbo, hdd, hnx, hno⟩
  have hS := hS.add2 hk (rowC x2 2 ((codeO l).map inC)) (rowC o2 1 ((oldO l).map iC)) ⟨hx, hnx⟩ ⟨ho, hno⟩ (fun g hg => ⟨hbx g hg, hx.lt hk.ok g hg⟩) (fun g hg => ⟨hbo g hg, ho.lt hk.ok g hg⟩) (fun g hg hg' => hdd g hg hg')
  clear hx ho hbx hbo hdd hnx hno
  have hS : SH _ [_, _, _, _, _] z1 := hS
  have hK := hS.K
  refine w_val rfl rfl (op_pure rfl) ?_
  refine w_val rfl rfl (op_pure rfl) ?_
  refine w_val rfl rfl (op_pure rfl) ?_
  refine w_val rfl rfl (op_pure rfl) ?_
  refine w_val rfl rfl (op_pure rfl) ?_
  refine w_nil ?_
  refine then_n ?_
  repeat refine wc_seq ?_
  refine wc_region ?_
  refine w_val rfl rfl (op_pure rfl) ?_
  refine w_call rfl rfl (op_call rfl rfl rfl rfl) (trimCode_ref_ok hK.ok (hv.keep0 hK) (by omega)) ?_
  rintro _ z1 ⟨hk, xr, orf, rfl, hxr, hor, -, -⟩
  have hS := hS.mov hk
  have hK := hS.K
  refine w_val rfl rfl (op_pure rfl) ?_
  refine w_val rfl rfl (op_pure rfl) ?_
  refine w_val rfl rfl (op_pure rfl) ?_
  refine w_val rfl rfl (op_pure rfl) ?_
  refine w_val rfl rfl (op_pure rfl) ?_
  refine w_nil ?_
  refine then_n ?_
  repeat refine wc_seq ?_
  refine wc_region ?_
  refine w_val rfl rfl (op_pure rfl) ?_
  refine w_val rfl rfl (op_pure rfl) ?_
  refine w_call rfl rfl (op_call rfl rfl rfl rfl) (code_same (by omega) (hS.row 1 rfl) hxr) ?_
  rintro _ _ ⟨rfl, rfl⟩
  refine w_val rfl rfl (op_pure rfl) ?_
  refine w_val rfl rfl (op_pure rfl) ?_
  refine w_val rfl rfl (op_pure rfl) ?_
  refine w_val rfl rfl (op_pure rfl) ?_
  refine w_call rfl rfl (op_call rfl rfl rfl rfl) (code_same (by omega) (hS.row 3 rfl) hxr) ?_
  rintro _ _ ⟨rfl, rfl⟩
  refine w_val rfl rfl (op_pure rfl) ?_
  refine w_val rfl rfl (op_pure rfl) ?_
  refine w_val rfl rfl (op_pure rfl) ?_
  refine w_val rfl rfl (op_pure rfl) ?_
  refine w_val rfl rfl (op_pure rfl) ?_
  refine w_call rfl rfl (op_call rfl rfl rfl rfl) (ints_same (by omega) (hS.row 2 rfl) hor) ?_
  rintro _ _ ⟨rfl, rfl⟩
  refine w_val rfl rfl (op_pure rfl) ?_
  refine w_val rfl rfl (op_pure rfl) ?_
  refine w_val rfl rfl (op_pure rfl) ?_
  refine w_val rfl rfl (op_pure rfl) ?_
  refine w_val rfl rfl (op_pure rfl) ?_
  refine w_call rfl rfl (op_call rfl rfl rfl rfl) (ints_same (by omega) (hS.row 4 rfl) hor) ?_
  rintro _ _ ⟨rfl, rfl⟩
  refine w_val rfl rfl (op_pure rfl) ?_
  refine w_val rfl rfl (op_pure rfl) ?_
  refine w_val rfl rfl (op_pure rfl) ?_
  refine w_val rfl rfl (op_pure rfl) ?_
  refine w_val rfl rfl (op_pure rfl) ?_
  refine w_call rfl rfl (op_call rfl rfl rfl rfl) (comes_all_ok hK.ok (hS.get 0 rfl).row (by omega)) ?_
  rintro _ z1 ⟨hk, rfl⟩
  have hS := hS.mov hk
  have hxr := hxr.keep0 hk
  have hor := hor.keep0 hk
  have hK := hS.K
  refine w_val rfl rfl (op_pure rfl) ?_
  refine w_val rfl rfl (op_pure rfl) ?_
  refine w_call rfl rfl (op_call rfl rfl rfl rfl) (comes_ref_ok hK.ok (hv.keep0 hK) (by omega)) ?_
  rintro _ z1 ⟨hk, rfl⟩
  have hS := hS.mov hk
  have hxr := hxr.keep0 hk
  have hor := hor.keep0 hk
  have hK := hS.K
  refine w_val rfl rfl (op_int (v := .bool false) rfl rfl (by decide) (by simp [intA])) ?_
  refine w_val rfl rfl (op_pure rfl) ?_
  refine w_nil ?_
  refine then_n ?_
  repeat refine wc_seq ?_
  refine wc_cond_f rfl ?_
  refine wc_skip ?_
  refine then_n ?_
  repeat refine wc_seq ?_
  refine wc_region ?_
  refine w_val rfl rfl (op_pure rfl) ?_
  refine w_nil ?_
  refine then_n ?_
  repeat refine wc_seq ?_
  refine wc_block ?_
  refine wc_loop_at (fun jj m z => ∃ (k : Nat), jj = l.length - k ∧ k ≤ l.length ∧ m = [(0, v), (5, c), (6, x1), (7, o1), (8, x2), (9, o2), (12, .int .i64 (k : Nat))] ∧ SH s [lentC c l, rowC x1 2 ((codeO l).map inC), rowC o1 1 ((oldO l).map iC), rowC x2 2 ((codeO l).map inC), rowC o2 1 ((oldO l).map iC)] z) l.length
    [(0, v), (5, c), (6, x1), (7, o1), (8, x2), (9, o2), (12, .int .i64 ((0 : Nat) : Int))] (Sub.cons rfl (Sub.cons rfl (Sub.cons rfl (Sub.cons rfl (Sub.cons rfl (Sub.cons rfl (Sub.cons rfl (Sub.nil _)))))))) ⟨0, by simp, by simp, rfl, hS⟩ ?_
  clear hS hK hxr hor
  rintro jj m z ⟨k, rfl, hk, rfl, hS⟩
  have hK := hS.K
  repeat refine wc_seq ?_
  refine wc_region ?_
  refine w_val rfl rfl (op_pure rfl) ?_
  refine w_val rfl rfl (op_pure rfl) ?_
  refine w_val rfl rfl (op_len rfl rfl rfl rfl rfl hv.slenF) ?_
  refine w_val rfl rfl (op_pure rfl) ?_
  refine w_nil ?_
  refine then_n ?_
  repeat refine wc_seq ?_
  refine wc_condT rfl (fun h68 => ?_) (fun h68 => ?_)
  · simp only [decide_eq_true_eq] at h68
    refine wc_skip ?_
    refine then_n ?_
    repeat refine wc_seq ?_
    refine wc_block ?_
    repeat refine wc_seq ?_
    refine wc_region ?_
    refine w_val rfl rfl (op_pure rfl) ?_
    refine w_val rfl rfl (op_pure rfl) ?_
    refine w_call rfl rfl (op_call rfl rfl rfl rfl) (comes_all_ok hK.ok (hS.get 0 rfl).row (by omega)) ?_
    rintro _ z1 ⟨hk2, rfl⟩
    have hS := hS.mov hk2
    have hK := hS.K
    refine w_val rfl rfl (op_pure rfl) ?_
    refine w_val rfl rfl (op_pure rfl) ?_
    refine w_call rfl rfl (op_call rfl rfl rfl rfl) (comes_ref_ok hK.ok (hv.keep0 hK) (by omega)) ?_
    rintro _ z1 ⟨hk2, rfl⟩
    have hS := hS.mov hk2
    have hK := hS.K
    refine w_val rfl rfl (op_int (v := .bool false) rfl rfl (by decide) (by simp [intA])) ?_
    refine w_nil ?_
    refine then_n ?_
    refine wc_cond_f rfl ?_
    refine wc_skip ?_
    refine out_n ?_
    refine then_n ?_
    refine wc_region ?_
    refine w_val rfl rfl (op_pure rfl) ?_
    refine w_val rfl rfl (op_add rfl rfl (by unfold In64; omega)) ?_
    refine w_val rfl rfl (op_pure rfl) ?_
    refine w_nil ?_
    exact round_n _ _ (by omega) (Sub.cons rfl (Sub.cons rfl (Sub.cons rfl (Sub.cons rfl (Sub.cons rfl (Sub.cons rfl (Sub.cons rfl (Sub.nil _)))))))) ⟨k + 1, rfl, by omega, rfl, hS⟩
  simp only [decide_eq_false_iff_not] at h68
  obtain rfl : k = l.length := by omega
  refine wc_exit ?_
  repeat first | refine then_x ?_ | refine round_x ?_ | refine cut_x ?_ | refine out_x' (by decide) ?_
  refine out_x ?_
  refine then_n ?_
  repeat refine wc_seq ?_
  refine wc_region ?_
  refine w_val rfl rfl (op_pure rfl) ?_
  refine w_val rfl rfl (op_pure rfl) ?_
  refine w_call rfl rfl (op_call rfl rfl rfl rfl) (keptCode_ok (by omega) (hS.get 0 rfl) (hv.keep0 hK)) ?_
  rintro _ _ ⟨rfl, rfl⟩
  refine w_val rfl rfl (op_pure rfl) ?_
  refine w_val rfl rfl (op_pure rfl) ?_
  refine w_val rfl rfl (op_pure rfl) ?_
  have hll := (hS.row 1 rfl).leaf
  have hlo := (hS.row 3 rfl).leaf
  refine w_lit (c := [x1, x2]) [[x1], [x2]] rfl rfl rfl rfl rfl rfl rfl (by decide) (by decide) (fill2 hll hlo) (by simp only [List.all_cons, List.all_nil, hll, hlo]; rfl) rfl (hc2L hll hlo) rfl hK.ok ?_
  intro v5 z2 hv5 hk2 hc2 hvg
  have hS := hS.add hk2 (rowC v5 1 [[x1], [x2]]) ⟨hv5, fun e => by rw [hvg] at e; cases e⟩ (row_newb hk2 hv5 hvg hc2)
  clear hv5 hk2 hc2 hvg
  have hS : SH _ [_, _, _, _, _, _] z2 := hS
  have hK := hS.K
  refine w_call rfl rfl (op_call rfl rfl rfl rfl) (apartCode_ok (data := [(x1, codeO l), (x2, codeO l)]) hK.ok (hS.row 5 rfl) (fun g hg h => by
    simp only [List.flatMap_cons, List.flatMap_nil, List.append_nil, List.mem_append] at h
    rcases h with h | h
    · exact hS.dis 5 1 _ _ (by decide) rfl rfl g hg h
    · exact hS.dis 5 3 _ _ (by decide) rfl rfl g hg h) (row_twoC (hS.row 1 rfl) (hS.row 3 rfl)) (List.pairwise_cons.2 ⟨fun b hb => by rw [List.mem_singleton.1 hb]; exact fun g hg h => hS.dis 1 3 _ _ (by decide) rfl rfl g hg h, List.pairwise_singleton ..⟩)
    (fun p hp => by
      rcases List.mem_cons.1 hp with rfl | hp
      · exact hS.nls 1 rfl
      · rw [List.mem_singleton.1 hp]; exact hS.nls 3 rfl) (by simp) (fun p hp => by
      rcases List.mem_cons.1 hp with rfl | hp
      · show (codeO l).length ≤ _; omega
      · rw [List.mem_singleton.1 hp]; show (codeO l).length ≤ _; omega)) ?_
  rintro _ z1 ⟨hk, rfl⟩
  have hS := hS.kill2 1 3 (by decide) rfl rfl hk (fun g hg => by
    simp only [List.flatMap_cons, List.flatMap_nil, List.append_nil, List.mem_append] at hg
    exact hg)
  have hS : SH _ [_, _, _, _, _, _] z1 := hS
  have hK := hS.K
  refine w_val rfl rfl (op_pure rfl) ?_
  refine w_val rfl rfl (op_pure rfl) ?_
  refine w_val rfl rfl (op_pure rfl) ?_
  refine w_val rfl rfl (op_pure rfl) ?_
  have hll := (hS.row 2 rfl).leaf
  have hlo := (hS.row 4 rfl).leaf
  refine w_lit (c := [o1, o2]) [[o1], [o2]] rfl rfl rfl rfl rfl rfl rfl (by decide) (by decide) (fill2 hll hlo) (by simp only [List.all_cons, List.all_nil, hll, hlo]; rfl) rfl (hc2L hll hlo) rfl hK.ok ?_
  intro v6 z2 hv6 hk2 hc2 hvg
  have hS := hS.add hk2 (rowC v6 1 [[o1], [o2]]) ⟨hv6, fun e => by rw [hvg] at e; cases e⟩ (row_newb hk2 hv6 hvg hc2)
  clear hv6 hk2 hc2 hvg
  have hS : SH _ [_, _, _, _, _, _, _] z2 := hS
  have hK := hS.K
  refine w_call rfl rfl (op_call rfl rfl rfl rfl) (apartInts_ok (data := [(o1, oldO l), (o2, oldO l)]) hK.ok (hS.row 6 rfl) (fun g hg h => by
    simp only [List.flatMap_cons, List.flatMap_nil, List.append_nil, List.mem_append] at h
    rcases h with h | h
    · exact hS.dis 6 2 _ _ (by decide) rfl rfl g hg h
    · exact hS.dis 6 4 _ _ (by decide) rfl rfl g hg h) (row_two26 (hS.row 2 rfl) (hS.row 4 rfl)) (List.pairwise_cons.2 ⟨fun b hb => by rw [List.mem_singleton.1 hb]; exact fun g hg h => hS.dis 2 4 _ _ (by decide) rfl rfl g hg h, List.pairwise_singleton ..⟩)
    (fun p hp => by
      rcases List.mem_cons.1 hp with rfl | hp
      · exact hS.nls 2 rfl
      · rw [List.mem_singleton.1 hp]; exact hS.nls 4 rfl) (by simp) (fun p hp => by
      rcases List.mem_cons.1 hp with rfl | hp
      · show (oldO l).length ≤ _; omega
      · rw [List.mem_singleton.1 hp]; show (oldO l).length ≤ _; omega)) ?_
  rintro _ z1 ⟨hk, rfl⟩
  have hS := hS.kill2 2 4 (by decide) rfl rfl hk (fun g hg => by
    simp only [List.flatMap_cons, List.flatMap_nil, List.append_nil, List.mem_append] at hg
    exact hg)
  have hS : SH _ [_, _, _, _, _, _, _] z1 := hS
  have hK := hS.K
  refine w_val rfl rfl (op_pure rfl) ?_
  refine w_val rfl rfl (op_pure rfl) ?_
  refine w_val rfl rfl (op_pure rfl) ?_
  refine w_val rfl rfl (op_pure rfl) ?_
  refine w_call rfl rfl (op_call rfl rfl rfl rfl) (keptCode_ok (by omega) (hS.get 0 rfl) (hv.keep0 hK)) ?_
  rintro _ _ ⟨rfl, rfl⟩
  refine w_val rfl rfl (op_pure rfl) ?_
  refine w_val rfl rfl (op_pure rfl) ?_
  refine w_call rfl rfl (op_call rfl rfl rfl rfl) (call_known (b := true) (Q := fun r s' => r = .bool true ∧ s' = _) rfl ⟨rfl, rfl⟩) ?_
  rintro _ _ ⟨rfl, rfl⟩
  refine w_val rfl rfl (op_pure rfl) ?_
  refine w_val rfl rfl (op_pure rfl) ?_
  refine w_nil ?_
  refine then_n ?_
  refine wc_ret ?_
  repeat first | refine then_r ?_ | refine out_r ?_ | refine round_r ?_ | refine cut_r ?_ | refine sc_r ?_
  exact ⟨_, rfl, rfl⟩
end Go.Ab
/- What came in, as the abstract machine sees it: shapes by type. -/
namespace Go.Ab
/-- Cells that a value of this type may hold: whole numbers, truth values, strings, rows and structs of such. -/
def Shaped (P : Program) : Nat → TypeId → List AV → Prop
  | 0, _, _ => False
  | n + 1, t, us => match P.underlying t with
    | some .bool => ∃ b, us = [.bool b]
    | some (.int k) => ∃ m, us = [.int k m] ∧ (Lit.int k m).wf = true
    | some .string => ∃ s : ByteArray, us = [.str s] ∧ s.size ≤ maxLen
    | some (.slice e) => ∃ nl xs, us = [.ro nl xs] ∧ (nl = true → xs = []) ∧ xs.length ≤ maxLen ∧ ∀ x ∈ xs, x.cells.length = P.cellsOf e ∧ Shaped P n e x.cells
    | some (.struct fs) => us.length = P.cellsOf t ∧ ∀ f ∈ fs.toList, Shaped P n f.type ((us.drop f.offset).take (P.cellsOf f.type))
    | _ => False
/-- The fields lie one behind the other. -/
def tiles (P : Program) : Nat → List Field → Nat → Bool
  | k, [], n => k == n
  | k, f :: r, n => f.offset == k && tiles P (k + P.cellsOf f.type) r n
/-- Types of such values. -/
def Plain (P : Program) : Nat → TypeId → Bool
  | 0, _ => false
  | n + 1, t => match P.underlying t with
    | some .bool | some (.int _) | some .string => true
    | some (.slice e) => P.cellsOf e > 0 && Plain P n e
    | some (.struct fs) => tiles P 0 fs.toList (P.cellsOf t) && fs.toList.all fun f => Plain P n f.type
    | _ => false
end Go.Ab
/- What came in, as the abstract machine sees it: rows of the arguments' data. -/
namespace Go.Ab
def packE {H : Type} (d : DataW H) (cs : List AV) : AV := match d with
  | .agg _ => .agg cs
  | _ => cs.headD .undef
mutual
/-- The cells of what was read. -/
def avs {H : Type} : DataW H → List AV
  | .lit (.int k n) => [.int k n]
  | .lit (.bool b) => [.bool b]
  | .lit (.string bs) => [.str ⟨bs.toArray⟩]
  | .nil => [.ro true []]
  | .slice es _ => [.ro false (elts es)]
  | .agg ds => avsAll ds
  | _ => [.undef]
def avsAll {H : Type} : List (DataW H) → List AV
  | [] => []
  | d :: r => avs d ++ avsAll r
def elts {H : Type} : List (DataW H) → List AV
  | [] => []
  | d :: r => packE d (avs d) :: elts r
end
theorem elts_map {H : Type} : ∀ (l : List (DataW H)), elts l = l.map fun d => packE d (avs d)
  | [] => by rw [elts]; rfl
  | d :: r => by rw [elts, elts_map r]; rfl
/-- Data of a type. -/
def HasTy {H : Type} (P : Program) : Nat → TypeId → DataW H → Prop
  | 0, _, _ => False
  | n + 1, t, d => match P.underlying t with
    | some .bool => ∃ b, d = .lit (.bool b)
    | some (.int k) => ∃ m, d = .lit (.int k m) ∧ (Lit.int k m).wf = true
    | some .string => ∃ bs, d = .lit (.string bs)
    | some (.slice e) => d = .nil ∨ ∃ es sp, d = .slice es sp ∧ ∀ x ∈ es, HasTy P n e x
    | some (.struct fs) => ∃ ds, d = .agg ds ∧ ds.length = fs.toList.length ∧ ∀ (i : Nat) (f : Field) (x : DataW H), fs.toList[i]? = some f → ds[i]? = some x → HasTy P n f.type x
    | _ => False
theorem HasTy.pack {H : Type} {P : Program} {n : Nat} {t : TypeId} {d : DataW H} (h : HasTy P n t d) : (packE d (avs d)).cells = avs d := by
  cases n with
  | zero => exact h.elim
  | succ n =>
    unfold HasTy at h
    split at h
    · obtain ⟨b, rfl⟩ := h; simp [avs, packE, AV.cells]
    · obtain ⟨b, rfl, -⟩ := h; simp [avs, packE, AV.cells]
    · obtain ⟨b, rfl⟩ := h; simp [avs, packE, AV.cells]
    · rcases h with rfl | ⟨es, sp, rfl, -⟩ <;> simp [avs, packE, AV.cells]
    · obtain ⟨ds, rfl, -⟩ := h; simp [avs, packE, AV.cells]
    · exact h.elim
theorem mapM_some' {α β : Type} {f : α → Option β} : ∀ {l : List α} {r : List β}, l.mapM f = some r → l.length = r.length ∧ ∀ (i : Nat) (x : α) (y : β), l[i]? = some x → r[i]? = some y → f x = some y
  | [], r, h => by simp at h; subst h; exact ⟨rfl, fun i x y h => by simp at h⟩
  | a :: l, r, h => by
    rw [List.mapM_cons] at h
    cases ha : f a with
    | none => simp [ha] at h
    | some b =>
      cases hl : l.mapM f with
      | none => simp [ha, hl] at h
      | some r' =>
        simp [ha, hl] at h
        subst h
        obtain ⟨h1, h2⟩ := mapM_some' hl
        refine ⟨by simp [h1], fun i x y hx hy => ?_⟩
        cases i with
        | zero => simp at hx hy; subst hx; subst hy; exact ha
        | succ i => exact h2 i x y (by simpa using hx) (by simpa using hy)
section
variable {H : Type} {enc : TypeId × Value → H} {P : Program} {w : World} {spare : Nat → Bool} {held : Bool} {ρ : Loc}
/-- What a reading of one type gives. -/
def RdOk (w : World) (P : Program) (ρ : Loc) (n : Nat) (t : TypeId) (cs : List Value) (d : DataW H) : Prop :=
  HasTy P n t d ∧ (avs d).length = cs.length ∧ CR w w.heap.size ρ (avs d) cs ∧ (avs d).all AV.leaf = true
theorem fields_read {n : Nat} (ih : ∀ t cs x, DataW.trod enc P w 0 spare held n t cs = some x → ∀ m, Plain P m t = true → RdOk w P ρ n t cs x.1) {m : Nat} {cs : List Value} :
    ∀ (fs : List Field) (k N : Nat) (xs : List (DataW H × List MemPlace)), N = cs.length → xs.length = fs.length → (∀ (i : Nat) (f : Field), fs[i]? = some f → DataW.trod enc P w 0 spare held n f.type ((cs.drop f.offset).take (P.cellsOf f.type)) = xs[i]?) → tiles P k fs N = true → (∀ f ∈ fs, Plain P m f.type = true) →
      (avsAll (xs.map (·.1))).length = (cs.drop k).length ∧ CR w w.heap.size ρ (avsAll (xs.map (·.1))) (cs.drop k) ∧ (avsAll (xs.map (·.1))).all AV.leaf = true ∧ ∀ (i : Nat) (f : Field) (x : DataW H × List MemPlace), fs[i]? = some f → xs[i]? = some x → HasTy P n f.type x.1
  | [], k, N, xs, hN, hl, h, ht, hp => by
    have : xs = [] := List.eq_nil_of_length_eq_zero hl
    subst this
    simp only [tiles, beq_iff_eq] at ht
    subst ht hN
    simp [avsAll, CR.nil]
  | f :: r, k, N, xs, hN, hl, h, ht, hp => by
    cases xs with
    | nil => simp at hl
    | cons b ys =>
      simp only [tiles, Bool.and_eq_true, beq_iff_eq] at ht
      obtain ⟨hoff, ht⟩ := ht
      have h0 := h 0 f rfl
      simp only [List.getElem?_cons_zero] at h0
      obtain ⟨h5, h1, h2, h6⟩ := ih _ _ b h0 m (hp f (List.mem_cons_self ..))
      obtain ⟨h3, h4, h7, h8⟩ := fields_read ih r (k + P.cellsOf f.type) N ys hN (by simpa using hl) (fun i g hg => by have := h (i + 1) g (by simpa using hg); simpa using this) ht (fun g hg => hp g (List.mem_cons_of_mem _ hg))
      rw [hoff] at h1 h2
      have e : cs.drop k = (cs.drop k).take (P.cellsOf f.type) ++ cs.drop (k + P.cellsOf f.type) := by
        rw [← List.drop_drop, List.take_append_drop]
      rw [List.map_cons, avsAll, e]
      refine ⟨by rw [List.length_append, List.length_append, h1, h3], h2.append h4, by rw [List.all_append, h6, h7]; rfl, fun i g x hg hx => ?_⟩
      cases i with
      | zero => simp at hg hx; subst hg; subst hx; exact h5
      | succ i => exact h8 i g x (by simpa using hg) (by simpa using hx)
theorem cells_at {w : World} {base : Nat} {a : Addr} {n : Nat} {cs : List Value} (h : w.cells? base a n = some cs) : cs.length = n ∧ ∀ (k : Nat) (v : Value), cs[k]? = some v → w.cell? (a.add k) = some v := by
  unfold World.cells? at h
  split at h
  · obtain ⟨h1, h2⟩ := mapM_some' h
    refine ⟨by rw [← h1, List.length_range], fun k v hv => ?_⟩
    have hk : k < n := by
      have := (List.getElem?_eq_some_iff.1 hv).1
      rw [← h1, List.length_range] at this; exact this
    exact h2 k k v (by rw [List.getElem?_range hk]) hv
  · cases h
theorem spot_none {w : World} {a : Addr} {v : Value} (h : w.cell? a = some v) : a.spot = none ∧ a.block < w.heap.size := by
  unfold World.cell? at h
  split at h
  · rename_i hb
    split at h
    · cases h
    · rename_i hs
      refine ⟨by simpa using hs, ?_⟩
      rcases Nat.lt_or_ge a.block w.heap.size with hl | hl
      · exact hl
      · rw [Array.getElem?_eq_none hl] at hb; cases hb
  · cases h
theorem CR.sole {u : AV} {v : Value} (h : VR w w.heap.size ρ u v) : CR w w.heap.size ρ [u] [v] := CR.cons h CR.nil
theorem read_ok : ∀ (n : Nat) (t : TypeId) (cs : List Value) (x : DataW H × List MemPlace), DataW.trod enc P w 0 spare held n t cs = some x → ∀ m, Plain P m t = true → RdOk w P ρ n t cs x.1
  | 0, _, _, _, h, _, _ => by simp [DataW.trod] at h
  | n + 1, t, cs, x, h, 0, hp => by simp [Plain] at hp
  | n + 1, t, cs, x, h, m + 1, hp => by
    have ih := fun t cs x h m hp => read_ok n t cs x h m hp
    unfold Plain at hp
    unfold RdOk HasTy
    cases hu : P.underlying t with
    | none => simp [hu] at hp
    | some td =>
      rw [hu] at hp
      cases td with
      | bool =>
        obtain ⟨b, rfl, rfl⟩ := DataW.trod_bool hu h
        exact ⟨⟨b, rfl⟩, by simp [avs], by simp only [avs]; exact CR.sole (.bool b), by simp [avs, AV.leaf]⟩
      | int k =>
        obtain ⟨b, rfl, rfl, hw⟩ := DataW.trod_int hu h
        exact ⟨⟨b, rfl, hw⟩, by simp [avs], by simp only [avs]; exact CR.sole (.int k b), by simp [avs, AV.leaf]⟩
      | string =>
        obtain ⟨b, rfl, rfl, hw⟩ := DataW.trod_string hu h
        exact ⟨⟨_, rfl⟩, by simp [avs], by simp only [avs]; exact CR.sole (.str b), by simp [avs, AV.leaf]⟩
      | slice e =>
        simp only [Bool.and_eq_true, decide_eq_true_eq] at hp
        rcases DataW.trod_slice hu h with ⟨rfl, rfl⟩ | ⟨a, len, cap, elems, rest, n', hn, rfl, rfl, hb, hlc, hcm, hel, helem, -, -⟩
        · refine ⟨.inl rfl, by simp [avs], ?_, by simp [avs, AV.leaf]⟩
          simp only [avs]
          exact CR.sole (.ro true [] none 0 (fun _ _ => undef) (Nat.le_refl _) (by simp) (fun _ => rfl) (fun a h => by cases h) (fun i x h => by simp at h) (fun i x h => by simp at h))
        · obtain rfl : n = n' := by omega
          have hall : ∀ (i : Nat) (y : DataW H × List MemPlace), elems[i]? = some y → ∃ vs, w.cells? 0 (a.add (i * P.cellsOf e)) (P.cellsOf e) = some vs ∧ RdOk w P ρ n e vs y.1 := by
            intro i y hy
            have hi : i < len := by have := (List.getElem?_eq_some_iff.1 hy).1; omega
            have := helem i hi
            rw [hy] at this
            cases hc : w.cells? 0 (a.add (i * P.cellsOf e)) (P.cellsOf e) with
            | none => rw [hc] at this; cases this
            | some vs => rw [hc] at this; exact ⟨vs, rfl, ih e vs y this m hp.2⟩
          refine ⟨.inr ⟨_, _, rfl, fun d hd => ?_⟩, by simp [avs], ?_, by simp [avs, AV.leaf]⟩
          · obtain ⟨y, hy, rfl⟩ := List.mem_map.1 hd
            obtain ⟨i, hi⟩ := List.getElem?_of_mem hy
            obtain ⟨vs, -, h1, -⟩ := hall i y hi
            exact h1
          · simp only [avs]
            refine CR.sole ?_
            have hlen : (elts (elems.map (·.1))).length = len := by rw [elts_map]; simp [hel]
            have hget : ∀ (i : Nat) (u : AV), (elts (elems.map (·.1)))[i]? = some u → ∃ y vs, elems[i]? = some y ∧ w.cells? 0 (a.add (i * P.cellsOf e)) (P.cellsOf e) = some vs ∧ u.cells = avs y.1 ∧ RdOk w P ρ n e vs y.1 := by
              intro i u hu'
              rw [elts_map, List.map_map, List.getElem?_map] at hu'
              cases hy : elems[i]? with
              | none => rw [hy] at hu'; cases hu'
              | some y =>
                rw [hy] at hu'
                obtain ⟨vs, h1, h2⟩ := hall i y hy
                cases hu'
                exact ⟨y, vs, rfl, h1, h2.1.pack, h2⟩
            have hadd : ∀ (b : Addr) (k : Nat), b.spot = none → b.add k = ⟨b.block, b.off + k, none⟩ := by
              intro b k hb
              obtain ⟨b1, b2, b3⟩ := b
              simp only at hb
              subst hb
              unfold Addr.add
              split
              · rename_i h0; rw [h0]; rfl
              · rfl
            have hsp : elems ≠ [] → a.spot = none ∧ a.block < w.heap.size := by
              intro hne
              obtain ⟨y, hy⟩ : ∃ y, elems[0]? = some y := by
                cases elems with
                | nil => exact (hne rfl).elim
                | cons y r => exact ⟨y, rfl⟩
              obtain ⟨vs, h2, -⟩ := hall 0 y hy
              obtain ⟨h7, h8⟩ := cells_at h2
              have hv := List.getElem?_eq_getElem (show 0 < vs.length by rw [h7]; exact hp.1)
              have := h8 0 _ hv
              rw [Nat.zero_mul] at this
              exact spot_none (a := a) this
            have hcell : ∀ (i : Nat) (u : AV), (elts (elems.map (·.1)))[i]? = some u → ∀ (k : Nat) (c : AV), u.cells[k]? = some c → ∃ v, w.cell? ⟨a.block, a.off + i * u.cells.length + k, none⟩ = some v ∧ VR w w.heap.size ρ c v := by
              intro i u hu' k c hc
              obtain ⟨y, vs, hy, h2, h3, h4, h5, h6, -⟩ := hget i u hu'
              obtain ⟨h7, h8⟩ := cells_at h2
              rw [h3] at hc
              have hk : k < vs.length := by rw [← h5]; exact (List.getElem?_eq_some_iff.1 hc).1
              have hv := List.getElem?_eq_getElem hk
              refine ⟨vs[k], ?_, h6.2 k c _ hc hv⟩
              have := h8 k _ hv
              have hs := (hsp (fun e => by rw [e] at hy; simp at hy)).1
              rw [hadd a _ hs, hadd _ _ rfl] at this
              rw [h3, h5, h7]
              exact this
            have key : VR w w.heap.size ρ (.ro false (elts (elems.map (·.1)))) (.slice (some a) (elts (elems.map (·.1))).length cap) := by
              refine .ro false _ (some a) cap (fun i k => match (elts (elems.map (·.1)))[i]? with
                | some u => (w.cell? ⟨a.block, a.off + i * u.cells.length + k, none⟩).getD undef
                | none => undef) (by omega) (by simp) (fun h => by cases h) ?_ ?_ ?_
              · intro a' ha hne
                cases ha
                exact hsp (fun e => hne (by rw [e]; rfl))
              · intro i u hu' k c hc a' ha
                cases ha
                obtain ⟨v, hv, -⟩ := hcell i u hu' k c hc
                simp only [hu', hv]
                rfl
              · intro i u hu' k c hc
                obtain ⟨v, hv, hr⟩ := hcell i u hu' k c hc
                simp only [hu', hv]
                exact hr
            rw [hlen] at key
            exact key
      | struct fs =>
        obtain ⟨xs, n', hn, rfl, hcs, hxl, hx⟩ := DataW.trod_struct hu h
        obtain rfl : n = n' := by omega
        simp only [Bool.and_eq_true, List.all_eq_true] at hp
        obtain ⟨h1, h2, h3, h4⟩ := fields_read (ρ := ρ) ih fs.toList 0 (P.cellsOf t) xs hcs.symm (by simpa using hxl) (fun i f hf => hx i f (by simpa using hf)) hp.1 hp.2
        refine ⟨⟨_, rfl, by simp [hxl], fun i f y hf hy => ?_⟩, ?_, ?_, ?_⟩
        · rw [List.getElem?_map] at hy
          cases hxi : xs[i]? with
          | none => rw [hxi] at hy; cases hy
          | some z => rw [hxi] at hy; cases hy; exact h4 i f z hf hxi
        · simp only [avs]; simpa using h1
        · simp only [avs]; simpa using h2
        · simp only [avs]; exact h3
      | _ => simp at hp
end
end Go.Ab
/- Runs of laws with arguments; rows of what was read. -/
namespace Go.Ab
open Go.WideShapes Go.RowKit
def St.zero : St := ⟨0, .leaf, []⟩
theorem zero_ok : St.zero.Ok := fun _ _ => rfl
theorem run_ok {P : Program} {T : Tab} (hm : P.follows .mixedOrders = true) (hT : TabOk P T) (hng : NoNG P) {K : FuncId → Option Bool} (hK : KOk P K) {f : FuncId} {args : List AV} {args' : Array Value} {w : World}
    (hc : CallS P T K f args St.zero fun r _ => r = .bool true) (ha : CR w w.heap.size (fun _ _ => none) args args'.toList) : Calls P f args' w fun e w' => e = .returned (.bool true) ∧ Below w.heap.size w w' := by
  obtain ⟨N, v, s', rfl, hn⟩ := hc
  have hs : Sim w w.heap.size (fun _ _ => none) St.zero w :=
    { low := Below.refl _ _, big := Nat.le_refl _,
      ver := by intros; simp_all, al := by intros; simp_all, sep := by intros; simp_all, ctr := by intros; simp_all }
  refine ((call_soundK (w0 := w) (B0 := w.heap.size) hm hT hng hK N f args _ _ _ (hn N (Nat.le_refl _))).2 _ w args' hs ha).mono fun e w' ⟨v', ρ', he, _, h2, h3⟩ => ?_
  cases h3
  exact ⟨he, h2.low⟩
section
variable {H : Type} {P : Program} {w : World} {ρ : Loc}
theorem packE_vr {r : Reach} {base n : Nat} {t : TypeId} {v : Value} {d : DataW H} (h : RdOk w P ρ n t v.cells.toList d) (hv : Value.okWide P w r base t v) : VR w w.heap.size ρ (packE d (avs d)) v := by
  obtain ⟨h1, h2, h3, h4⟩ := h
  cases n with
  | zero => exact h1.elim
  | succ n =>
    unfold HasTy at h1
    split at h1
    · rename_i hu
      obtain ⟨b, rfl⟩ := h1
      obtain ⟨b', rfl⟩ := okWide_bool hu hv
      simp only [avs, packE] at h3 ⊢
      exact h3.2 0 _ _ rfl rfl
    · rename_i hu
      obtain ⟨b, rfl, -⟩ := h1
      obtain ⟨b', rfl⟩ := okWide_int hu hv
      simp only [avs, packE] at h3 ⊢
      exact h3.2 0 _ _ rfl rfl
    · rename_i hu
      obtain ⟨b, rfl⟩ := h1
      obtain ⟨b', rfl⟩ := okWide_string hu hv
      simp only [avs, packE] at h3 ⊢
      exact h3.2 0 _ _ rfl rfl
    · rename_i hu
      obtain ⟨a, len, cap, rfl⟩ := okWide_slice hu hv
      rcases h1 with rfl | ⟨es, sp, rfl, -⟩
      · simp only [avs, packE] at h3 ⊢
        exact h3.2 0 _ _ rfl rfl
      · simp only [avs, packE] at h3 ⊢
        exact h3.2 0 _ _ rfl rfl
    · rename_i hu
      obtain ⟨arr, rfl, -⟩ := okWide_struct hu hv
      obtain ⟨ds, rfl, -⟩ := h1
      simp only [packE]
      have e : Value.cells (.agg arr) = arr := rfl
      rw [e] at h2 h3
      exact .agg _ arr (by simpa using h2) fun i u v hu hv => h3.2 i u v hu (by simpa using hv)
    · exact h1.elim
def dElems : DataW H → List (DataW H)
  | .slice es _ => es
  | _ => []
def dInt : DataW H → Int
  | .lit (.int _ n) => n
  | _ => 0
def dBool : DataW H → Bool
  | .lit (.bool b) => b
  | _ => false
def dStr : DataW H → ByteArray
  | .lit (.string bs) => ⟨bs.toArray⟩
  | _ => ByteArray.empty
theorem ty_int {n : Nat} {t : TypeId} {k : IntKind} {d : DataW H} (h : HasTy P n t d) (hu : P.underlying t = some (.int k)) : avs d = [.int k (dInt d)] ∧ (Lit.int k (dInt d)).wf = true := by
  cases n with
  | zero => exact h.elim
  | succ n =>
    unfold HasTy at h
    rw [hu] at h
    obtain ⟨m, rfl, hw⟩ := h
    exact ⟨by simp [avs, dInt], hw⟩
theorem ty_slice {n : Nat} {t e : TypeId} {d : DataW H} (h : HasTy P n t d) (hu : P.underlying t = some (.slice e)) : ∃ m nl, avs d = [.ro nl (elts (dElems d))] ∧ packE d (avs d) = .ro nl (elts (dElems d)) ∧ ∀ x ∈ dElems d, HasTy P m e x := by
  cases n with
  | zero => exact h.elim
  | succ n =>
    unfold HasTy at h
    rw [hu] at h
    rcases h with rfl | ⟨es, sp, rfl, hx⟩
    · exact ⟨n, true, by simp [avs, dElems, elts], by simp [avs, dElems, elts, packE], fun x hx => by cases hx⟩
    · exact ⟨n, false, by simp [avs, dElems], by simp [avs, dElems, packE], hx⟩
theorem ty_struct {n : Nat} {t : TypeId} {fs : Array Field} {d : DataW H} (h : HasTy P n t d) (hu : P.underlying t = some (.struct fs)) : ∃ m ds, d = .agg ds ∧ ds.length = fs.toList.length ∧ ∀ (i : Nat) (f : Field) (x : DataW H), fs.toList[i]? = some f → ds[i]? = some x → HasTy P m f.type x := by
  cases n with
  | zero => exact h.elim
  | succ n =>
    unfold HasTy at h
    rw [hu] at h
    obtain ⟨ds, h1, h2, h3⟩ := h
    exact ⟨n, ds, h1, h2, h3⟩
theorem row_elts {h : Tr Grp} {sz m : Nat} {e : TypeId} {nl : Bool} {es : List (DataW H)} (ht : ∀ x ∈ es, HasTy P m e x) (hc : ∀ x ∈ es, (avs x).length = sz ∧ (avs x).all AV.leaf = true) : Row h sz (.ro nl (elts es)) (es.map avs) := by
  refine ⟨?_, ?_⟩
  · rw [elts_map, List.map_map]
    exact List.map_congr_left fun x hx => (ht x hx).pack
  · intro c hc'
    obtain ⟨x, hx, rfl⟩ := List.mem_map.1 hc'
    exact hc x hx
/-- A row of flat elements. -/
theorem rowF_elts {h : Tr Grp} {sz m : Nat} {e : TypeId} {nl : Bool} {es : List (DataW H)} {α : Type} {f : DataW H → α} {c : α → List AV} (ht : ∀ x ∈ es, HasTy P m e x) (hx : ∀ x ∈ es, avs x = c (f x)) (hc : ∀ a, (c a).length = sz ∧ (c a).all AV.leaf = true) : Row h sz (.ro nl (elts es)) ((es.map f).map c) := by
  have := row_elts (h := h) (sz := sz) (nl := nl) ht fun x hx' => by rw [hx x hx']; exact hc _
  rw [List.map_map]
  rw [show es.map (c ∘ f) = es.map avs from List.map_congr_left fun x hx' => (hx x hx').symm]
  exact this
end
end Go.Ab
/- What the abstract machine asks of this program: the table, the orders. -/
namespace Go.Ab
open Go.Proofs
theorem tt_ok : TabOk Try.prog Tt := tab_ok (by kernel_rfl)
theorem prog_ng : NoNG Try.prog := ng_ok (by kernel_rfl)
theorem prog_mixed : Try.prog.follows .mixedOrders = true := by kernel_rfl
end Go.Ab
/- The table of closed functions is right. -/
namespace Go.Ab
open Go.Proofs Go.RowKit
theorem known_of {P : Program} {T : Tab} (hm : P.follows .mixedOrders = true) (hT : TabOk P T) (hng : NoNG P) {n : Nat} {f : FuncId} (h : yes (evCall P T n f [] ⟨0, .leaf, []⟩) = true) :
    Callable P f ∧ ∀ w, Calls P f #[] w fun e w' => e = .returned (.bool true) ∧ Below w.heap.size w w' := by
  refine ⟨?_, fun w => closed_run hm hT hng h w⟩
  cases hr : evCall P T n f [] ⟨0, .leaf, []⟩ with
  | none => simp [hr, yes] at h
  | some r => exact (call_sound (w0 := default) (B0 := 0) hm hT hng n f [] _ _ _ hr).1
set_option maxRecDepth 1000000 in
theorem awake26 : yes (evCall Try.prog Tt 3000 16 [] ⟨0, .leaf, []⟩) = true := by kernel_rfl
set_option maxRecDepth 1000000 in
theorem awake27 : yes (evCall Try.prog Tt 3000 33 [] ⟨0, .leaf, []⟩) = true := by kernel_rfl
theorem kt_ok : KOk Try.prog Kt := by
  intro f b h
  unfold Kt at h
  cases h1 : Nat.beq f 16 with
  | true =>
    rw [h1, cond_true] at h
    cases h
    rw [Nat.eq_of_beq_eq_true h1]
    exact known_of prog_mixed tt_ok prog_ng awake26
  | false =>
    rw [h1, cond_false] at h
    cases h2 : Nat.beq f 33 with
    | true =>
      rw [h2, cond_true] at h
      cases h
      rw [Nat.eq_of_beq_eq_true h2]
      exact known_of prog_mixed tt_ok prog_ng awake27
    | false => rw [h2, cond_false] at h; cases h
end Go.Ab
/- What is read of a module, an array, a function, an instruction; how much a reading holds. -/
namespace Go.Ab
open Go.Proofs
section
variable {H : Type} {h : Tr Grp} {n : Nat} {d : DataW H}
theorem wf_in {a : Int} (h : (Lit.int .i64 a).wf = true) : In64 a := by
  simp only [Lit.wf, Bool.and_eq_true, decide_eq_true_eq] at h
  have e1 : IntKind.i64.min = -9223372036854775808 := by decide
  have e2 : IntKind.i64.max = 9223372036854775807 := by decide
  rw [e1, e2] at h
  unfold In64
  omega
def toInstr : DataW H → InstrL
  | .agg [a, b] => ⟨dInt a, dInt b⟩
  | _ => ⟨0, 0⟩
def toArr : DataW H → ArrL
  | .agg [a, b] => ⟨dInt a, dInt b⟩
  | _ => ⟨0, 0⟩
def toFunc : DataW H → FuncL
  | .agg [l, p, r, a, b, c] => ⟨dInt l, (dElems p).map dInt, (dElems r).map dInt, dInt a, dInt b, (dElems c).map toInstr⟩
  | _ => ⟨0, [], [], 0, 0, []⟩
def toMod : DataW H → ModL
  | .agg [g, a, c, f] => ⟨(dElems g).map dInt, (dElems a).map toArr, (dElems c).map dInt, (dElems f).map toFunc⟩
  | _ => ⟨[], [], [], []⟩
theorem instr_of (k : HasTy Try.prog n 50 d) : avs d = inC (toInstr d) ∧ In64 (toInstr d).op ∧ In64 (toInstr d).a := by
  obtain ⟨m, ds, rfl, hl, hx⟩ := ty_struct k Try.underlying50
  match ds, hl, hx with
  | [a, b], _, hx =>
    have h0 := ty_int (hx 0 _ a rfl rfl) Try.underlying3
    have h1 := ty_int (hx 1 _ b rfl rfl) Try.underlying2
    refine ⟨?_, wf_in h0.2, wf_in h1.2⟩
    simp only [avs, avsAll, h0.1, h1.1, toInstr, inC]
    rfl
theorem code_of (k : HasTy Try.prog n 30 d) : ∃ nl, avs d = [.ro nl (elts (dElems d))] ∧ packE d (avs d) = .ro nl (elts (dElems d)) ∧ Row h 2 (.ro nl (elts (dElems d))) (((dElems d).map toInstr).map inC) ∧ ∀ y ∈ (dElems d).map toInstr, In64 y.op ∧ In64 y.a := by
  obtain ⟨m, nl, h1, h3, h2⟩ := ty_slice k Try.underlying30
  refine ⟨nl, h1, h3, rowF_elts h2 (fun x hx => (instr_of (h2 x hx)).1) (fun a => ⟨rfl, rfl⟩), fun y hy => ?_⟩
  obtain ⟨x, hx, rfl⟩ := List.mem_map.1 hy
  exact (instr_of (h2 x hx)).2
end
end Go.Ab
namespace Go.Proofs.Ytdpdlmjlahehoaa
open Go.ChangeShapes Go.WideShapes Go.ChangeAt Go.RowKit Go.Ab
section
variable {H : Type}
theorem bulk_pos' (d : DataW H) : 1 ≤ Rows.uptoBulk d := by
  cases d with
  | lit l => cases l <;> simp [Rows.uptoBulk]
  | _ => simp [Rows.uptoBulk]
theorem bulk_len' : ∀ (es : List (DataW H)), es.length ≤ Rows.uptoBulkAll es
  | [] => by simp [Rows.uptoBulkAll]
  | d :: r => by
    have h1 := bulk_pos' d
    have h2 := bulk_len' r
    simp only [Rows.uptoBulkAll, List.length_cons]
    omega
theorem elems_len' (d : DataW H) : (dElems d).length ≤ Rows.uptoBulk d := by
  cases d with
  | slice es sp => have := bulk_len' es; simp only [dElems, Rows.uptoBulk]; omega
  | _ => simp [dElems]
end
end Go.Proofs.Ytdpdlmjlahehoaa
namespace Go.Proofs.Ytdpdlmjlahehoaa
open Go.ChangeShapes Go.WideShapes Go.ChangeAt Go.RowKit Go.Ab
section
open Go.Ab
variable {H : Type} {n : Nat} {d : DataW H}
theorem int_pack (k : HasTy Try.prog n 3 d) (hu : Try.prog.underlying 3 = some (.int .i64)) : packE d (avs d) = .int .i64 (dInt d) := by
  cases n with
  | zero => exact k.elim
  | succ n =>
    unfold HasTy at k
    rw [hu] at k
    obtain ⟨m, rfl, -⟩ := k
    simp [avs, packE, dInt]
end
theorem trimCode_own : ownKnob Try.prog.godebug = none := by kernel_rfl
theorem plain30 : Plain Try.prog 10 30 = true := by kernel_rfl
theorem plain3 : Plain Try.prog 10 3 = true := by kernel_rfl
set_option maxRecDepth 100000 in
theorem trimCode_walk {H : Type} {enc : TypeId × Value → H} {W : World} {base : Nat} {v v1 : Value} {d d1 : DataW H} {ps p1 : List MemPlace} (hval : Value.okWide Try.prog W .any base 30 v) (hval1 : Value.okWide Try.prog W .any base 3 v1)
    (h : DataW.Trod enc Try.prog W 0 (fun _ => true) true 30 v d ps) (h1 : DataW.Trod enc Try.prog W 0 (fun _ => true) true 3 v1 d1 p1) (hb : Rows.uptoBulk d ≤ 1048576) :
    Calls Try.prog 4 #[v, v1] W fun e w' => e = .returned (.bool true) ∧ Below W.heap.size W w' := by
  obtain ⟨fuel, hf⟩ := h
  obtain ⟨fuel1, hf1⟩ := h1
  have hr := read_ok (ρ := fun _ _ => none) fuel 30 _ _ hf 10 plain30
  have hr1 := read_ok (ρ := fun _ _ => none) fuel1 3 _ _ hf1 10 plain3
  obtain ⟨nl, -, e1, k1, -⟩ := code_of (h := .leaf) hr.1
  have hv := packE_vr hr hval
  have hv1 := packE_vr hr1 hval1
  rw [e1] at hv
  rw [int_pack hr1.1 Try.underlying3] at hv1
  exact run_ok prog_mixed tt_ok prog_ng kt_ok (trimCode_run zero_ok k1 (by rw [List.length_map]; exact Nat.le_trans (elems_len' d) (by omega))) (CR.cons hv (CR.sole hv1))
set_option maxRecDepth 100000 in
theorem trimCode_contract (H : Type) (enc : TypeId × Value → H) (W : World) (base : Nat) (args : Array Value) (ds gs : List (DataW H)) (before : List MemPlace)
    (hval : ∀ (j : Nat) t v, Try.f4.params[j]? = some t → args[j]? = some v → Value.okWide Try.prog W .any base t v)
    (hW : DataW.Whole enc Try.prog Try.f4.params.toList Rows.trimCodeSpec.vars false W args.toList ds gs before) (hk : Rows.uptoSmall H (ds ++ gs) = true) :
    Calls Try.prog 4 args W fun e W' => ∃ v, e = .returned v ∧ Rows.trimCodeSpec.post enc Try.prog Try.f4 false true false false W args v W' := by
  have hW' := hW
  have hlt := hW.lt
  obtain ⟨p, q, hA0, hV, rfl, hfz, hnd⟩ := hW
  have hA : DataW.TrodAll enc Try.prog W 0 (fun _ => true) true Try.f4.params.toList args.toList ds p := hA0
  rw [Try.params4] at hA hval
  obtain ⟨v0, vs0, d0, ds0, p0, q0, hargs, rfl, rfl, h0, r0⟩ := trodAll_cons hA
  obtain ⟨v1, vs1, d1, ds1, p1, q1, rfl, rfl, rfl, h1, r1⟩ := trodAll_cons r0
  obtain ⟨rfl, rfl, rfl⟩ := trodAll_nil r1
  obtain rfl : args = #[v0, v1] := by cases args; simp_all
  obtain ⟨rfl, rfl⟩ := trodVars_none hV
  clear hA0
  simp only [List.append_nil] at hW' hlt
  have hb := of_decide_eq_true hk
  simp only [List.append_nil, Rows.uptoBulkAll] at hb
  refine (trimCode_walk (hval 0 30 v0 rfl rfl) (hval 1 3 v1 rfl rfl) h0 h1 (by omega)).mono fun e W' ⟨he, bel⟩ => ?_
  subst he
  exact ⟨_, rfl, _, _, _, [], _, [], hW', trodAll_mk1 (shut_bool Try.underlying4 _), trodAll_cons_mk (Below.trod (by kernel_rfl) (by kernel_rfl) (of_decide_eq_true (by kernel_rfl)) h0 bel (fun x hx => hlt x (List.mem_append.2 (.inl hx))))
    (trodAll_cons_mk (Below.trod (by kernel_rfl) (by kernel_rfl) (of_decide_eq_true (by kernel_rfl)) h1 bel (fun x hx => hlt x (List.mem_append.2 (.inr hx)))) trodAll_mk0), rfl, bel.frame _, fun h => by cases h⟩
set_option maxRecDepth 100000 in
theorem trimCode_lifted (os : Os) (started : os.Started) (H : Type) (enc : TypeId × Value → H) (F : Stop.Interp) :
    ReturnsInHanded {} Try.checked os 4 .any ((Rows.OpenSpec.upto Rows.trimCodeSpec).pre6 enc Try.prog Try.f4 Rows.trimCodeUptoRow.domain false) (((Rows.OpenSpec.upto Rows.trimCodeSpec).at F).post enc Try.prog Try.f4 false true false false) := by
  refine returnsInHanded_of_cond (C := Try.checked) (s := Rows.OpenSpec.upto Rows.trimCodeSpec) (k := Rows.uptoSmall) rfl trimCode_own started (by kernel_rfl) Try.func4
    (OpenSpec.witness (enc := enc) (C := Try.checked) (s := Rows.OpenSpec.upto Rows.trimCodeSpec) (k := Rows.uptoSmall) rfl false ⟨#[], #[.slice none 0 0, .int .i64 0], []⟩ 8 (by kernel_rfl) (by kernel_rfl) (by kernel_rfl)
      (x := ([.nil, .lit (.int .i64 0)], [], [])) (by kernel_rfl) rfl (by kernel_rfl)) ?_
  intro W base args ds gs before hval hW _ hk _
  exact trimCode_contract H enc W base args ds gs before hval hW hk
theorem trimCodeUpto_holds : Rows.TrimCodeUptoSaid :=
  OpenClaim.holds_of_cond 4 Try.f4 rfl rfl rfl rfl rfl rfl rfl ⟨rfl, rfl, rfl, rfl, rfl⟩ rfl rfl rfl rfl rfl (by kernel_rfl) Try.func4 (by kernel_rfl)
    (of_decide_eq_true (by kernel_rfl)) (by unfold Func.isWrapper; first | (rw [if_pos (by decide +kernel)]; kernel_rfl) | (rw [if_neg (by decide +kernel)]; exact ⟨rfl, rfl⟩))
    (fun os started H enc _ F => trimCode_lifted os started H enc F)
end Go.Proofs.Ytdpdlmjlahehoaa
