/- Parts of one proof, put together: D13 D14 D16 D19 D20 D21 D22 D23. -/
import Derived.Test.YtdpdlmjlahehoaaLinkTwo3
/- Shape: instructions and heads. -/
namespace Go.Ab
open Go.Proofs
def localsE (x : FuncL) : Int := (x.params.length : Int) + (if x.locals < 0 then 0 else if 32 < x.locals then 32 else x.locals)
def rngE (a n : Int) : Int := if a < 0 ∨ n ≤ a then 130 else 0
def instrE (mm : ModL) (x : FuncL) (y : InstrL) : Int :=
  if y.op = 32 then 0
  else if y.op = 33 ∨ y.op = 34 then rngE y.a (localsE x)
  else if y.op = 35 ∨ y.op = 36 then rngE y.a mm.globals.length
  else if y.op = 37 ∨ y.op = 38 then rngE y.a mm.arrays.length
  else if y.op = 43 ∨ y.op = 44 then rngE y.a x.code.length
  else if y.op = 45 then rngE y.a mm.funcs.length
  else if y.op = 47 then rngE y.a mm.channels.length
  else if y.op = 39 ∨ y.op = 40 ∨ y.op = 41 ∨ y.op = 42 ∨ y.op = 46 ∨ (1 ≤ y.op ∧ y.op ≤ 17) then rngE y.a 1
  else 100
def roomE (mm : ModL) (x : FuncL) (op : Int) : Int :=
  if 1 ≤ op ∧ op ≤ 17 then 1
  else if op = 32 then -1
  else if op = 33 ∨ op = 34 then localsE x
  else if op = 35 ∨ op = 36 then mm.globals.length
  else if op = 37 ∨ op = 38 then mm.arrays.length
  else if op = 39 ∨ op = 40 ∨ op = 41 ∨ op = 42 ∨ op = 46 then 1
  else if op = 43 ∨ op = 44 then x.code.length
  else if op = 45 then mm.funcs.length
  else if op = 47 then mm.channels.length
  else -2
def instr2E (mm : ModL) (x : FuncL) (y : InstrL) : Int :=
  if roomE mm x y.op = -2 then 100 else if 0 ≤ roomE mm x y.op ∧ (y.a < 0 ∨ roomE mm x y.op ≤ y.a) then 130 else 0
theorem instr_room (mm : ModL) (x : FuncL) (y : InstrL) : instrE mm x y = instr2E mm x y := by
  have h0 : 0 ≤ localsE x := by unfold localsE; (repeat' split) <;> omega
  unfold instrE instr2E roomE rngE
  generalize localsE x = l at h0
  (repeat' split) <;> omega
theorem ins_any {mm : ModL} {x : FuncL} {y : InstrL} (h : y.op = 32) : instrE mm x y = 0 := by unfold instrE; rw [if_pos h]
theorem ins_loc {mm : ModL} {x : FuncL} {y : InstrL} (h : y.op = 33 ∨ y.op = 34) : instrE mm x y = rngE y.a (localsE x) := by unfold instrE; rw [if_neg (by omega), if_pos h]
theorem ins_glo {mm : ModL} {x : FuncL} {y : InstrL} (h : y.op = 35 ∨ y.op = 36) : instrE mm x y = rngE y.a mm.globals.length := by unfold instrE; rw [if_neg (by omega), if_neg (by omega), if_pos h]
theorem ins_arr {mm : ModL} {x : FuncL} {y : InstrL} (h : y.op = 37 ∨ y.op = 38) : instrE mm x y = rngE y.a mm.arrays.length := by unfold instrE; rw [if_neg (by omega), if_neg (by omega), if_neg (by omega), if_pos h]
theorem ins_jmp {mm : ModL} {x : FuncL} {y : InstrL} (h : y.op = 43 ∨ y.op = 44) : instrE mm x y = rngE y.a x.code.length := by unfold instrE; rw [if_neg (by omega), if_neg (by omega), if_neg (by omega), if_neg (by omega), if_pos h]
theorem ins_cal {mm : ModL} {x : FuncL} {y : InstrL} (h : y.op = 45) : instrE mm x y = rngE y.a mm.funcs.length := by unfold instrE; rw [if_neg (by omega), if_neg (by omega), if_neg (by omega), if_neg (by omega), if_neg (by omega), if_pos h]
theorem ins_snd {mm : ModL} {x : FuncL} {y : InstrL} (h : y.op = 47) : instrE mm x y = rngE y.a mm.channels.length := by unfold instrE; rw [if_neg (by omega), if_neg (by omega), if_neg (by omega), if_neg (by omega), if_neg (by omega), if_neg (by omega), if_pos h]
theorem ins_one {mm : ModL} {x : FuncL} {y : InstrL} (h : y.op = 39 ∨ y.op = 40 ∨ y.op = 41 ∨ y.op = 42 ∨ y.op = 46 ∨ (1 ≤ y.op ∧ y.op ≤ 17)) : instrE mm x y = rngE y.a 1 := by
  unfold instrE; rw [if_neg (by omega), if_neg (by omega), if_neg (by omega), if_neg (by omega), if_neg (by omega), if_neg (by omega), if_neg (by omega), if_pos h]
theorem ins_bad {mm : ModL} {x : FuncL} {y : InstrL} (h32 : ¬ y.op = 32) (h33 : ¬ y.op = 33) (h34 : ¬ y.op = 34) (h35 : ¬ y.op = 35) (h36 : ¬ y.op = 36) (h37 : ¬ y.op = 37) (h38 : ¬ y.op = 38) (h39 : ¬ y.op = 39) (h40 : ¬ y.op = 40) (h41 : ¬ y.op = 41) (h42 : ¬ y.op = 42) (h43 : ¬ y.op = 43) (h44 : ¬ y.op = 44) (h45 : ¬ y.op = 45) (h46 : ¬ y.op = 46) (h47 : ¬ y.op = 47) (h : y.op < 1 ∨ 17 < y.op) : instrE mm x y = 100 := by
  unfold instrE
  rw [if_neg h32, if_neg (fun k => k.elim h33 h34), if_neg (fun k => k.elim h35 h36), if_neg (fun k => k.elim h37 h38), if_neg (fun k => k.elim h43 h44), if_neg h45, if_neg h47, if_neg]
  rintro (k | k | k | k | k | ⟨k1, k2⟩)
  · exact h39 k
  · exact h40 k
  · exact h41 k
  · exact h42 k
  · exact h46 k
  · rcases h with h | h
    · exact absurd k1 (Int.not_le.2 h)
    · exact absurd k2 (Int.not_le.2 h)
theorem rm_one {mm : ModL} {x : FuncL} {op : Int} (h : 1 ≤ op ∧ op ≤ 17) : roomE mm x op = 1 := by unfold roomE; rw [if_pos h]
theorem rm_any {mm : ModL} {x : FuncL} {op : Int} (h : op = 32) : roomE mm x op = -1 := by unfold roomE; rw [if_neg (by omega), if_pos h]
theorem rm_loc {mm : ModL} {x : FuncL} {op : Int} (h : op = 33 ∨ op = 34) : roomE mm x op = localsE x := by unfold roomE; rw [if_neg (by omega), if_neg (by omega), if_pos h]
theorem rm_glo {mm : ModL} {x : FuncL} {op : Int} (h : op = 35 ∨ op = 36) : roomE mm x op = mm.globals.length := by unfold roomE; rw [if_neg (by omega), if_neg (by omega), if_neg (by omega), if_pos h]
theorem rm_arr {mm : ModL} {x : FuncL} {op : Int} (h : op = 37 ∨ op = 38) : roomE mm x op = mm.arrays.length := by unfold roomE; rw [if_neg (by omega), if_neg (by omega), if_neg (by omega), if_neg (by omega), if_pos h]
theorem rm_one' {mm : ModL} {x : FuncL} {op : Int} (h : op = 39 ∨ op = 40 ∨ op = 41 ∨ op = 42 ∨ op = 46) : roomE mm x op = 1 := by unfold roomE; rw [if_neg (by omega), if_neg (by omega), if_neg (by omega), if_neg (by omega), if_neg (by omega), if_pos h]
theorem rm_jmp {mm : ModL} {x : FuncL} {op : Int} (h : op = 43 ∨ op = 44) : roomE mm x op = x.code.length := by unfold roomE; rw [if_neg (by omega), if_neg (by omega), if_neg (by omega), if_neg (by omega), if_neg (by omega), if_neg (by omega), if_pos h]
theorem rm_cal {mm : ModL} {x : FuncL} {op : Int} (h : op = 45) : roomE mm x op = mm.funcs.length := by unfold roomE; rw [if_neg (by omega), if_neg (by omega), if_neg (by omega), if_neg (by omega), if_neg (by omega), if_neg (by omega), if_neg (by omega), if_pos h]
theorem rm_snd {mm : ModL} {x : FuncL} {op : Int} (h : op = 47) : roomE mm x op = mm.channels.length := by unfold roomE; rw [if_neg (by omega), if_neg (by omega), if_neg (by omega), if_neg (by omega), if_neg (by omega), if_neg (by omega), if_neg (by omega), if_neg (by omega), if_pos h]
theorem rm_bad {mm : ModL} {x : FuncL} {op : Int} (h0 : ¬ (1 ≤ op ∧ op ≤ 17)) (h32 : ¬ op = 32) (h33 : ¬ op = 33) (h34 : ¬ op = 34) (h35 : ¬ op = 35) (h36 : ¬ op = 36) (h37 : ¬ op = 37) (h38 : ¬ op = 38) (h39 : ¬ op = 39) (h40 : ¬ op = 40) (h41 : ¬ op = 41) (h42 : ¬ op = 42) (h43 : ¬ op = 43) (h44 : ¬ op = 44) (h45 : ¬ op = 45) (h46 : ¬ op = 46) (h47 : ¬ op = 47) : roomE mm x op = -2 := by
  unfold roomE
  rw [if_neg h0, if_neg h32, if_neg (fun k => k.elim h33 h34), if_neg (fun k => k.elim h35 h36), if_neg (fun k => k.elim h37 h38), if_neg, if_neg (fun k => k.elim h43 h44), if_neg h45, if_neg h47]
  rintro (k | k | k | k | k)
  · exact h39 k
  · exact h40 k
  · exact h41 k
  · exact h42 k
  · exact h46 k
def headE (x : FuncL) : Int :=
  if 8 < x.params.length ∨ 4 < x.results.length ∨ 2048 < x.code.length ∨ 32 < x.locals ∨ 64 < x.stack then 74
  else if x.locals < 0 ∨ x.stack < 0 then 130
  else if x.code.length = 0 then 132
  else 0
set_option maxRecDepth 10000 in
set_option maxHeartbeats 4000000 in
theorem locals_ok {s : St} {c : List AV} {mm : ModL} {x : FuncL} {f : Nat} (hok : s.Ok) (hm : mm.small) (hx : mm.funcs[f]? = some x) (hv : ModR s.h mm c) :
    CallS Try.prog Tt Kt 115 [.agg c, .int .i64 (f : Nat)] s (fun v s' => Keep [] s s' ∧ v = .int .i64 (localsE x)) := by
  have hz := hv.leaf.2
  have hv' := hv
  obtain ⟨vg, va, vh, vf, rfl, hvg, hva, hvh, csf, hrf, hlf, hF⟩ := hv'
  have hsx := hm.2.2.2.2 x (List.mem_of_getElem? hx)
  obtain ⟨hl1, hl3, hl2, hl4, -⟩ := (id hm)
  obtain ⟨hx1, hx2, hx3⟩ := hsx
  refine call_of (fn := Try.f115) (nt := 30) Try.func115 rfl rfl rfl ?_
  repeat refine wc_seq ?_
  refine wc_region ?_
  refine w_box rfl rfl rfl hz hok ?_
  intro s1 hp1 hk1 hc1
  have hK := (Keep.refl hok).two hk1
  have hpm1 : Pt s1.h (.ptr s.ctr 0 0) [vg, va, vh, vf] := hp1
  clear hp1
  have hpm := hpm1
  have hf : f < mm.funcs.length := (List.getElem?_eq_some_iff.1 hx).1
  have hsf : vf.slen = some mm.funcs.length := hrf.slen.trans (congrArg some hlf)
  obtain ⟨cx, hcx⟩ : ∃ c, csf[f]? = some c := ⟨_, List.getElem?_eq_getElem (by omega)⟩
  obtain ⟨vp, vr, vc, rfl, hvp, hvr, hvc⟩ := hF f x cx hx hcx
  refine w_val rfl rfl (op_pure rfl) ?_
  refine w_nil ?_
  refine then_n ?_
  repeat refine wc_seq ?_
  refine wc_region ?_
  refine w_val rfl rfl (op_pure rfl) ?_
  refine w_val rfl rfl (op_pure rfl) ?_
  refine w_val rfl rfl (op_pure rfl) ?_
  refine w_split (i := 7) rfl (fun h7 => ?_) (fun h7 => ?_)
  · simp only [decide_eq_true_eq] at h7; omega
  clear h7
  refine w_val rfl rfl (op_pure rfl) ?_
  refine w_val rfl rfl (op_fld rfl rfl rfl rfl (by decide) (by assumption) (Nat.le_of_ble_eq_true rfl)) ?_
  refine w_val rfl rfl (op_load rfl rfl (Pt.fld (by assumption) _ (Nat.le_of_ble_eq_true rfl)) rfl) ?_
  refine w_val rfl rfl (op_len rfl rfl rfl rfl rfl (by assumption)) ?_
  refine w_val rfl rfl (op_pure rfl) ?_
  refine w_val rfl rfl (op_pure rfl) ?_
  refine w_nil ?_
  refine then_n ?_
  repeat refine wc_seq ?_
  refine wc_condT rfl (fun h13 => ?_) (fun h13 => ?_)
  · simp only [decide_eq_true_eq, ge_iff_le] at h13; omega
  clear h13
  refine wc_skip ?_
  refine then_n ?_
  repeat refine wc_seq ?_
  refine wc_draw (fun _ => True) (by kernel_rfl) rfl ?_
  refine wd_val (fun _ => trivial) rfl rfl (op_fld rfl rfl rfl rfl (by decide) (by assumption) (Nat.le_of_ble_eq_true rfl)) ?_
  refine wd_val (fun _ => trivial) rfl rfl (op_load rfl rfl (Pt.fld (by assumption) _ (Nat.le_of_ble_eq_true rfl)) rfl) ?_
  refine wd_val (fun _ => trivial) rfl rfl (op_pure rfl) ?_
  refine wd_val (fun _ => trivial) rfl rfl (op_idx rfl rfl (natA_cast _ _) rfl rfl rfl rfl (Row.bare (Row.keep0 (by assumption) hK)) (by omega)) ?_
  refine wd_val (fun _ => trivial) rfl rfl (op_fld rfl rfl rfl rfl (by decide) (Pt.bare (Pt.keep0 (Row.pt (by assumption) (by assumption)) hK)) (Nat.le_of_ble_eq_true rfl)) ?_
  refine wd_val (fun _ => trivial) rfl rfl (op_load rfl rfl (Pt.fld (Pt.bare (Pt.keep0 (Row.pt (by assumption) (by assumption)) hK)) _ (Nat.le_of_ble_eq_true rfl)) rfl) ?_
  refine wd_val (fun _ => trivial) rfl rfl (op_len rfl rfl rfl rfl rfl (Row.slenF (by assumption))) ?_
  refine wd_val (fun _ => trivial) rfl rfl (op_fld rfl rfl rfl rfl (by decide) (by assumption) (Nat.le_of_ble_eq_true rfl)) ?_
  refine wd_val (fun _ => trivial) rfl rfl (op_load rfl rfl (Pt.fld (by assumption) _ (Nat.le_of_ble_eq_true rfl)) rfl) ?_
  refine wd_val (fun _ => trivial) rfl rfl (op_pure rfl) ?_
  refine wd_val (fun _ => trivial) rfl rfl (op_idx rfl rfl (natA_cast _ _) rfl rfl rfl rfl (Row.bare (Row.keep0 (by assumption) hK)) (by omega)) ?_
  refine wd_val (fun _ => trivial) rfl rfl (op_fld rfl rfl rfl rfl (by decide) (Pt.bare (Pt.keep0 (Row.pt (by assumption) (by assumption)) hK)) (Nat.le_of_ble_eq_true rfl)) ?_
  refine wd_val (fun _ => trivial) rfl rfl (op_load rfl rfl (Pt.fld (Pt.bare (Pt.keep0 (Row.pt (by assumption) (by assumption)) hK)) _ (Nat.le_of_ble_eq_true rfl)) rfl) ?_
  refine wd_val (fun _ => trivial) rfl rfl (op_max rfl rfl rfl) ?_
  refine wd_val (fun _ => trivial) rfl rfl (op_min rfl rfl rfl) ?_
  refine wd_val (fun _ => trivial) rfl rfl (op_add (a := (x.params.length : Nat)) rfl rfl ?_) ?_
  · unfold In64
    (repeat' split) <;> omega
  refine wd_val (fun _ => trivial) rfl rfl (op_pure rfl) ?_
  refine wd_nil ?_
  refine then_n ?_
  refine wc_ret ?_
  repeat first | refine then_r ?_ | refine out_r ?_ | refine round_r ?_ | refine cut_r ?_ | refine sc_r ?_
  refine ⟨_, rfl, hK, congrArg (AV.int .i64) ?_⟩
  unfold localsE
  (repeat' split) <;> omega
set_option maxRecDepth 10000 in
set_option maxHeartbeats 4000000 in
theorem locals_ref_ok {s : St} {c : List AV} {mm : ModL} {x : FuncL} {f : Nat} (hok : s.Ok) (hm : mm.small) (hx : mm.funcs[f]? = some x) (hv : ModR s.h mm c) :
    CallS Try.prog Tt Kt 117 [.agg c, .int .i64 (f : Nat)] s (fun v s' => Keep [] s s' ∧ v = .int .i64 (localsE x)) := by
  have hz := hv.leaf.2
  have hv' := hv
  obtain ⟨vg, va, vh, vf, rfl, hvg, hva, hvh, csf, hrf, hlf, hF⟩ := hv'
  have hsx := hm.2.2.2.2 x (List.mem_of_getElem? hx)
  obtain ⟨hl1, hl3, hl2, hl4, -⟩ := (id hm)
  obtain ⟨hx1, hx2, hx3⟩ := hsx
  refine call_of (fn := Try.f117) (nt := 36) Try.func117 rfl rfl rfl ?_
  repeat refine wc_seq ?_
  refine wc_region ?_
  refine w_box rfl rfl rfl hz hok ?_
  intro s1 hp1 hk1 hc1
  have hK := (Keep.refl hok).two hk1
  have hpm1 : Pt s1.h (.ptr s.ctr 0 0) [vg, va, vh, vf] := hp1
  clear hp1
  have hpm := hpm1
  have hf : f < mm.funcs.length := (List.getElem?_eq_some_iff.1 hx).1
  have hsf : vf.slen = some mm.funcs.length := hrf.slen.trans (congrArg some hlf)
  obtain ⟨cx, hcx⟩ : ∃ c, csf[f]? = some c := ⟨_, List.getElem?_eq_getElem (by omega)⟩
  obtain ⟨vp, vr, vc, rfl, hvp, hvr, hvc⟩ := hF f x cx hx hcx
  refine w_val rfl rfl (op_pure rfl) ?_
  refine w_nil ?_
  refine then_n ?_
  repeat refine wc_seq ?_
  refine wc_region ?_
  refine w_val rfl rfl (op_pure rfl) ?_
  refine w_val rfl rfl (op_pure rfl) ?_
  refine w_val rfl rfl (op_pure rfl) ?_
  refine w_split (i := 9) rfl (fun h9 => ?_) (fun h9 => ?_)
  · simp only [decide_eq_true_eq] at h9; omega
  clear h9
  refine w_val rfl rfl (op_pure rfl) ?_
  refine w_val rfl rfl (op_fld rfl rfl rfl rfl (by decide) (by assumption) (Nat.le_of_ble_eq_true rfl)) ?_
  refine w_val rfl rfl (op_load rfl rfl (Pt.fld (by assumption) _ (Nat.le_of_ble_eq_true rfl)) rfl) ?_
  refine w_val rfl rfl (op_len rfl rfl rfl rfl rfl (by assumption)) ?_
  refine w_val rfl rfl (op_pure rfl) ?_
  refine w_val rfl rfl (op_pure rfl) ?_
  refine w_nil ?_
  refine then_n ?_
  repeat refine wc_seq ?_
  refine wc_condT rfl (fun h15 => ?_) (fun h15 => ?_)
  · simp only [decide_eq_true_eq, ge_iff_le] at h15; omega
  clear h15
  refine wc_skip ?_
  refine then_n ?_
  repeat refine wc_seq ?_
  refine wc_region ?_
  refine w_val rfl rfl (op_fld rfl rfl rfl rfl (by decide) (by assumption) (Nat.le_of_ble_eq_true rfl)) ?_
  refine w_val rfl rfl (op_load rfl rfl (Pt.fld (by assumption) _ (Nat.le_of_ble_eq_true rfl)) rfl) ?_
  refine w_val rfl rfl (op_pure rfl) ?_
  refine w_val rfl rfl (op_idx rfl rfl (natA_cast _ _) rfl rfl rfl rfl (Row.keep0 (by assumption) hK) (by omega)) ?_
  refine w_val rfl rfl (op_fld rfl rfl rfl rfl (by decide) (Pt.keep0 (Row.pt (by assumption) (by assumption)) hK) (Nat.le_of_ble_eq_true rfl)) ?_
  refine w_val rfl rfl (op_load rfl rfl (Pt.fld (Pt.keep0 (Row.pt (by assumption) (by assumption)) hK) _ (Nat.le_of_ble_eq_true rfl)) rfl) ?_
  refine w_val rfl rfl (op_len rfl rfl rfl rfl rfl (Row.slenF (by assumption))) ?_
  refine w_val rfl rfl (op_pure rfl) ?_
  refine w_nil ?_
  refine then_n ?_
  repeat refine wc_seq ?_
  refine wc_region ?_
  refine w_val rfl rfl (op_fld rfl rfl rfl rfl (by decide) (by assumption) (Nat.le_of_ble_eq_true rfl)) ?_
  refine w_val rfl rfl (op_load rfl rfl (Pt.fld (by assumption) _ (Nat.le_of_ble_eq_true rfl)) rfl) ?_
  refine w_val rfl rfl (op_pure rfl) ?_
  refine w_val rfl rfl (op_idx rfl rfl (natA_cast _ _) rfl rfl rfl rfl (Row.keep0 (by assumption) hK) (by omega)) ?_
  refine w_val rfl rfl (op_fld rfl rfl rfl rfl (by decide) (Pt.keep0 (Row.pt (by assumption) (by assumption)) hK) (Nat.le_of_ble_eq_true rfl)) ?_
  refine w_val rfl rfl (op_load rfl rfl (Pt.fld (Pt.keep0 (Row.pt (by assumption) (by assumption)) hK) _ (Nat.le_of_ble_eq_true rfl)) rfl) ?_
  refine w_val rfl rfl (op_pure rfl) ?_
  refine w_nil ?_
  refine then_n ?_
  repeat refine wc_seq ?_
  refine wc_region ?_
  refine w_val rfl rfl (op_pure rfl) ?_
  refine w_val rfl rfl (op_pure rfl) ?_
  refine w_nil ?_
  refine then_n ?_
  repeat refine wc_seq ?_
  refine wc_condT rfl (fun h30 => ?_) (fun h30 => ?_)
  · simp only [decide_eq_true_eq] at h30
    refine wc_region ?_
    refine w_val rfl rfl (op_pure rfl) ?_
    refine w_nil ?_
    refine then_n ?_
    repeat refine wc_seq ?_
    refine wc_region ?_
    refine w_val rfl rfl (op_pure rfl) ?_
    refine w_val rfl rfl (op_pure rfl) ?_
    refine w_nil ?_
    refine then_n ?_
    repeat refine wc_seq ?_
    refine wc_condT rfl (fun h32 => ?_) (fun h32 => ?_)
    · simp only [decide_eq_true_eq, gt_iff_lt] at h32
      refine wc_region ?_
      refine w_val rfl rfl (op_pure rfl) ?_
      refine w_nil ?_
      refine then_n ?_
      repeat refine wc_seq ?_
      refine wc_region ?_
      refine w_val rfl rfl (op_pure rfl) ?_
      refine w_val rfl rfl (op_pure rfl) ?_
      refine w_val rfl rfl (op_add rfl rfl (by unfold In64; omega)) ?_
      refine w_val rfl rfl (op_pure rfl) ?_
      refine w_nil ?_
      refine then_n ?_
      refine wc_ret ?_
      repeat first | refine then_r ?_ | refine out_r ?_ | refine round_r ?_ | refine cut_r ?_ | refine sc_r ?_
      refine ⟨_, rfl, hK, congrArg (AV.int .i64) ?_⟩
      unfold localsE
      (repeat' split) <;> omega
    simp only [decide_eq_false_iff_not, gt_iff_lt] at h32
    refine wc_skip ?_
    refine then_n ?_
    repeat refine wc_seq ?_
    refine wc_region ?_
    refine w_val rfl rfl (op_pure rfl) ?_
    refine w_val rfl rfl (op_pure rfl) ?_
    refine w_val rfl rfl (op_add rfl rfl (by unfold In64; omega)) ?_
    refine w_val rfl rfl (op_pure rfl) ?_
    refine w_nil ?_
    refine then_n ?_
    refine wc_ret ?_
    repeat first | refine then_r ?_ | refine out_r ?_ | refine round_r ?_ | refine cut_r ?_ | refine sc_r ?_
    refine ⟨_, rfl, hK, congrArg (AV.int .i64) ?_⟩
    unfold localsE
    (repeat' split) <;> omega
  simp only [decide_eq_false_iff_not] at h30
  refine wc_skip ?_
  refine then_n ?_
  repeat refine wc_seq ?_
  refine wc_region ?_
  refine w_val rfl rfl (op_pure rfl) ?_
  refine w_val rfl rfl (op_pure rfl) ?_
  refine w_nil ?_
  refine then_n ?_
  repeat refine wc_seq ?_
  refine wc_condT rfl (fun h32 => ?_) (fun h32 => ?_)
  · simp only [decide_eq_true_eq, gt_iff_lt] at h32
    refine wc_region ?_
    refine w_val rfl rfl (op_pure rfl) ?_
    refine w_nil ?_
    refine then_n ?_
    repeat refine wc_seq ?_
    refine wc_region ?_
    refine w_val rfl rfl (op_pure rfl) ?_
    refine w_val rfl rfl (op_pure rfl) ?_
    refine w_val rfl rfl (op_add rfl rfl (by unfold In64; omega)) ?_
    refine w_val rfl rfl (op_pure rfl) ?_
    refine w_nil ?_
    refine then_n ?_
    refine wc_ret ?_
    repeat first | refine then_r ?_ | refine out_r ?_ | refine round_r ?_ | refine cut_r ?_ | refine sc_r ?_
    refine ⟨_, rfl, hK, congrArg (AV.int .i64) ?_⟩
    unfold localsE
    (repeat' split) <;> omega
  simp only [decide_eq_false_iff_not, gt_iff_lt] at h32
  refine wc_skip ?_
  refine then_n ?_
  repeat refine wc_seq ?_
  refine wc_region ?_
  refine w_val rfl rfl (op_pure rfl) ?_
  refine w_val rfl rfl (op_pure rfl) ?_
  refine w_val rfl rfl (op_add rfl rfl (by unfold In64; omega)) ?_
  refine w_val rfl rfl (op_pure rfl) ?_
  refine w_nil ?_
  refine then_n ?_
  refine wc_ret ?_
  repeat first | refine then_r ?_ | refine out_r ?_ | refine round_r ?_ | refine cut_r ?_ | refine sc_r ?_
  refine ⟨_, rfl, hK, congrArg (AV.int .i64) ?_⟩
  unfold localsE
  (repeat' split) <;> omega
set_option maxRecDepth 10000 in
set_option maxHeartbeats 4000000 in
theorem instr_ok {s : St} {c : List AV} {mm : ModL} {x : FuncL} {f : Nat} {y : InstrL} (hok : s.Ok) (hm : mm.small) (hx : mm.funcs[f]? = some x) (hv : ModR s.h mm c) :
    CallS Try.prog Tt Kt 108 [.agg c, .int .i64 (f : Nat), .agg (inC y)] s (fun v s' => Keep [] s s' ∧ v = .int .i64 (instrE mm x y)) := by
  have hz := hv.leaf.2
  have hv' := hv
  obtain ⟨vg, va, vh, vf, rfl, hvg, hva, hvh, csf, hrf, hlf, hF⟩ := hv'
  have hsx := hm.2.2.2.2 x (List.mem_of_getElem? hx)
  obtain ⟨hl1, hl3, hl2, hl4, -⟩ := (id hm)
  obtain ⟨hx1, hx2, hx3⟩ := hsx
  refine call_of (fn := Try.f108) (nt := 86) Try.func108 rfl rfl rfl ?_
  repeat refine wc_seq ?_
  refine wc_region ?_
  refine w_box rfl rfl rfl hz hok ?_
  intro s1 hp1 hk1 hc1
  have hK := (Keep.refl hok).two hk1
  have hpm1 : Pt s1.h (.ptr s.ctr 0 0) [vg, va, vh, vf] := hp1
  clear hp1
  refine w_box rfl rfl rfl rfl hK.ok ?_
  intro s2 hp2 hk2 hc2
  have hK := hK.two hk2
  have hpm2 : Pt s2.h (.ptr s1.ctr 0 0) [.int .i64 y.op, .int .i64 y.a] := hp2
  clear hp2
  have hpm1 := hpm1.keep0 hk2
  have hf : f < mm.funcs.length := (List.getElem?_eq_some_iff.1 hx).1
  have hsf : vf.slen = some mm.funcs.length := hrf.slen.trans (congrArg some hlf)
  obtain ⟨cx, hcx⟩ : ∃ c, csf[f]? = some c := ⟨_, List.getElem?_eq_getElem (by omega)⟩
  obtain ⟨vp, vr, vc, rfl, hvp, hvr, hvc⟩ := hF f x cx hx hcx
  refine w_val rfl rfl (op_pure rfl) ?_
  refine w_nil ?_
  refine then_n ?_
  repeat refine wc_seq ?_
  refine wc_region ?_
  refine w_val rfl rfl (op_pure rfl) ?_
  refine w_val rfl rfl (op_pure rfl) ?_
  refine w_val rfl rfl (op_pure rfl) ?_
  refine w_split (i := 10) rfl (fun h10 => ?_) (fun h10 => ?_)
  · simp only [decide_eq_true_eq] at h10; omega
  clear h10
  refine w_val rfl rfl (op_pure rfl) ?_
  refine w_val rfl rfl (op_fld rfl rfl rfl rfl (by decide) (by assumption) (Nat.le_of_ble_eq_true rfl)) ?_
  refine w_val rfl rfl (op_load rfl rfl (Pt.fld (by assumption) _ (Nat.le_of_ble_eq_true rfl)) rfl) ?_
  refine w_val rfl rfl (op_len rfl rfl rfl rfl rfl (by assumption)) ?_
  refine w_val rfl rfl (op_pure rfl) ?_
  refine w_val rfl rfl (op_pure rfl) ?_
  refine w_nil ?_
  refine then_n ?_
  repeat refine wc_seq ?_
  refine wc_condT rfl (fun h16 => ?_) (fun h16 => ?_)
  · simp only [decide_eq_true_eq, ge_iff_le] at h16; omega
  clear h16
  refine wc_skip ?_
  refine then_n ?_
  repeat refine wc_seq ?_
  refine wc_region ?_
  refine w_val rfl rfl (op_pure rfl) ?_
  refine w_nil ?_
  refine then_n ?_
  repeat refine wc_seq ?_
  refine wc_region ?_
  refine w_val rfl rfl (op_fld rfl rfl rfl rfl (by decide) (by assumption) (Nat.le_of_ble_eq_true rfl)) ?_
  refine w_val rfl rfl (op_load rfl rfl (by assumption) rfl) ?_
  refine w_nil ?_
  refine then_n ?_
  repeat refine wc_seq ?_
  refine wc_cut (fun m' s' => ∃ n : Int, Sub [(5, .ptr s1.ctr 0 0), (7, .int .i64 n)] m' ∧ Keep [] s s' ∧ Pt s'.h (.ptr s1.ctr 0 0) [.int .i64 y.op, .int .i64 y.a] ∧ instrE mm x y = rngE y.a n) ?_ ?_
  · refine wc_block ?_
    repeat refine wc_seq ?_
    refine wc_block ?_
    repeat refine wc_seq ?_
    refine wc_block ?_
    repeat refine wc_seq ?_
    refine wc_block ?_
    repeat refine wc_seq ?_
    refine wc_block ?_
    repeat refine wc_seq ?_
    refine wc_block ?_
    refine wc_block ?_
    repeat refine wc_seq ?_
    refine wc_block ?_
    refine wc_block ?_
    repeat refine wc_seq ?_
    refine wc_block ?_
    refine wc_block ?_
    repeat refine wc_seq ?_
    refine wc_block ?_
    refine wc_block ?_
    repeat refine wc_seq ?_
    refine wc_block ?_
    repeat refine wc_seq ?_
    refine wc_region ?_
    refine w_val rfl rfl (op_pure rfl) ?_
    refine w_val rfl rfl (op_pure rfl) ?_
    refine w_nil ?_
    refine then_n ?_
    repeat refine wc_seq ?_
    refine wc_condT rfl (fun h19 => ?_) (fun h19 => ?_)
    · simp only [beq_iff_eq] at h19
      refine wc_exit ?_
      repeat first | refine then_x ?_ | refine round_x ?_ | refine cut_x ?_ | refine out_x' (by decide) ?_
      refine out_x ?_
      refine then_n ?_
      repeat refine wc_seq ?_
      refine wc_region ?_
      refine w_val rfl rfl (op_pure rfl) ?_
      refine w_nil ?_
      refine then_n ?_
      repeat refine wc_seq ?_
      refine wc_ret ?_
      repeat first | refine then_r ?_ | refine out_r ?_ | refine round_r ?_ | refine cut_r ?_ | refine sc_r ?_
      refine ⟨_, rfl, hK, congrArg (AV.int .i64) ?_⟩
      exact (ins_any h19).symm
    simp only [beq_eq_false_iff_ne, ne_eq] at h19
    refine wc_skip ?_
    refine then_n ?_
    repeat refine wc_seq ?_
    refine wc_region ?_
    refine w_val rfl rfl (op_pure rfl) ?_
    refine w_val rfl rfl (op_pure rfl) ?_
    refine w_nil ?_
    refine then_n ?_
    repeat refine wc_seq ?_
    refine wc_condT rfl (fun h21 => ?_) (fun h21 => ?_)
    · simp only [beq_iff_eq] at h21
      refine wc_exit ?_
      repeat first | refine then_x ?_ | refine round_x ?_ | refine cut_x ?_ | refine out_x' (by decide) ?_
      refine out_x ?_
      refine out_n ?_
      refine then_n ?_
      repeat refine wc_seq ?_
      refine wc_region ?_
      refine w_val rfl rfl (op_load rfl rfl (by assumption) rfl) ?_
      refine w_val rfl rfl (op_pure rfl) ?_
      refine w_call rfl rfl (op_call rfl rfl rfl rfl) (locals_ok hK.ok hm hx (by exact hv.keep0 hK)) ?_
      rintro _ s3 ⟨hk3, rfl⟩
      have hK := hK.two hk3
      have hpm1 := hpm1.keep0 hk3
      have hpm2 := hpm2.keep0 hk3
      refine w_val rfl rfl (op_pure rfl) ?_
      refine w_nil ?_
      refine then_n ?_
      refine wc_exit ?_
      repeat first | refine then_x ?_ | refine round_x ?_ | refine cut_x ?_ | refine out_x' (by decide) ?_
      refine out_x ?_
      refine cut_n ?_
      exact ⟨_, Sub.cons rfl (Sub.cons rfl (Sub.nil _)), hK, hpm2, ins_loc (.inl h21)⟩
    simp only [beq_eq_false_iff_ne, ne_eq] at h21
    refine wc_skip ?_
    refine then_n ?_
    repeat refine wc_seq ?_
    refine wc_region ?_
    refine w_val rfl rfl (op_pure rfl) ?_
    refine w_val rfl rfl (op_pure rfl) ?_
    refine w_nil ?_
    refine then_n ?_
    repeat refine wc_seq ?_
    refine wc_condT rfl (fun h23 => ?_) (fun h23 => ?_)
    · simp only [beq_iff_eq] at h23
      refine wc_exit ?_
      repeat first | refine then_x ?_ | refine round_x ?_ | refine cut_x ?_ | refine out_x' (by decide) ?_
      refine out_x ?_
      refine then_n ?_
      repeat refine wc_seq ?_
      refine wc_region ?_
      refine w_val rfl rfl (op_load rfl rfl (by assumption) rfl) ?_
      refine w_val rfl rfl (op_pure rfl) ?_
      refine w_call rfl rfl (op_call rfl rfl rfl rfl) (locals_ok hK.ok hm hx (by exact hv.keep0 hK)) ?_
      rintro _ s3 ⟨hk3, rfl⟩
      have hK := hK.two hk3
      have hpm1 := hpm1.keep0 hk3
      have hpm2 := hpm2.keep0 hk3
      refine w_val rfl rfl (op_pure rfl) ?_
      refine w_nil ?_
      refine then_n ?_
      refine wc_exit ?_
      repeat first | refine then_x ?_ | refine round_x ?_ | refine cut_x ?_ | refine out_x' (by decide) ?_
      refine out_x ?_
      refine cut_n ?_
      exact ⟨_, Sub.cons rfl (Sub.cons rfl (Sub.nil _)), hK, hpm2, ins_loc (.inr h23)⟩
    simp only [beq_eq_false_iff_ne, ne_eq] at h23
    refine wc_skip ?_
    refine then_n ?_
    repeat refine wc_seq ?_
    refine wc_region ?_
    refine w_val rfl rfl (op_pure rfl) ?_
    refine w_val rfl rfl (op_pure rfl) ?_
    refine w_nil ?_
    refine then_n ?_
    repeat refine wc_seq ?_
    refine wc_condT rfl (fun h25 => ?_) (fun h25 => ?_)
    · simp only [beq_iff_eq] at h25
      refine wc_exit ?_
      repeat first | refine then_x ?_ | refine round_x ?_ | refine cut_x ?_ | refine out_x' (by decide) ?_
      refine out_x ?_
      refine out_n ?_
      refine then_n ?_
      repeat refine wc_seq ?_
      refine wc_region ?_
      refine w_val rfl rfl (op_fld rfl rfl rfl rfl (by decide) (by assumption) (Nat.le_of_ble_eq_true rfl)) ?_
      refine w_val rfl rfl (op_load rfl rfl (by assumption) rfl) ?_
      refine w_val rfl rfl (op_len rfl rfl rfl rfl rfl (Row.slenF (by assumption))) ?_
      refine w_val rfl rfl (op_pure rfl) ?_
      refine w_nil ?_
      refine then_n ?_
      refine wc_exit ?_
      repeat first | refine then_x ?_ | refine round_x ?_ | refine cut_x ?_ | refine out_x' (by decide) ?_
      refine out_x ?_
      refine cut_n ?_
      exact ⟨_, Sub.cons rfl (Sub.cons rfl (Sub.nil _)), hK, hpm2, ins_glo (.inl h25)⟩
    simp only [beq_eq_false_iff_ne, ne_eq] at h25
    refine wc_skip ?_
    refine then_n ?_
    repeat refine wc_seq ?_
    refine wc_region ?_
    refine w_val rfl rfl (op_pure rfl) ?_
    refine w_val rfl rfl (op_pure rfl) ?_
    refine w_nil ?_
    refine then_n ?_
    repeat refine wc_seq ?_
    refine wc_condT rfl (fun h27 => ?_) (fun h27 => ?_)
    · simp only [beq_iff_eq] at h27
      refine wc_exit ?_
      repeat first | refine then_x ?_ | refine round_x ?_ | refine cut_x ?_ | refine out_x' (by decide) ?_
      refine out_x ?_
      refine then_n ?_
      repeat refine wc_seq ?_
      refine wc_region ?_
      refine w_val rfl rfl (op_fld rfl rfl rfl rfl (by decide) (by assumption) (Nat.le_of_ble_eq_true rfl)) ?_
      refine w_val rfl rfl (op_load rfl rfl (by assumption) rfl) ?_
      refine w_val rfl rfl (op_len rfl rfl rfl rfl rfl (Row.slenF (by assumption))) ?_
      refine w_val rfl rfl (op_pure rfl) ?_
      refine w_nil ?_
      refine then_n ?_
      refine wc_exit ?_
      repeat first | refine then_x ?_ | refine round_x ?_ | refine cut_x ?_ | refine out_x' (by decide) ?_
      refine out_x ?_
      refine cut_n ?_
      exact ⟨_, Sub.cons rfl (Sub.cons rfl (Sub.nil _)), hK, hpm2, ins_glo (.inr h27)⟩
    simp only [beq_eq_false_iff_ne, ne_eq] at h27
    refine wc_skip ?_
    refine then_n ?_
    repeat refine wc_seq ?_
    refine wc_region ?_
    refine w_val rfl rfl (op_pure rfl) ?_
    refine w_val rfl rfl (op_pure rfl) ?_
    refine w_nil ?_
    refine then_n ?_
    repeat refine wc_seq ?_
    refine wc_condT rfl (fun h29 => ?_) (fun h29 => ?_)
    · simp only [beq_iff_eq] at h29
      refine wc_exit ?_
      repeat first | refine then_x ?_ | refine round_x ?_ | refine cut_x ?_ | refine out_x' (by decide) ?_
      refine out_x ?_
      refine out_n ?_
      refine then_n ?_
      repeat refine wc_seq ?_
      refine wc_region ?_
      refine w_val rfl rfl (op_fld rfl rfl rfl rfl (by decide) (by assumption) (Nat.le_of_ble_eq_true rfl)) ?_
      refine w_val rfl rfl (op_load rfl rfl (Pt.fld (by assumption) _ (Nat.le_of_ble_eq_true rfl)) rfl) ?_
      refine w_val rfl rfl (op_len rfl rfl rfl rfl rfl (Row.slenF (by assumption))) ?_
      refine w_val rfl rfl (op_pure rfl) ?_
      refine w_nil ?_
      refine then_n ?_
      refine wc_exit ?_
      repeat first | refine then_x ?_ | refine round_x ?_ | refine cut_x ?_ | refine out_x' (by decide) ?_
      refine out_x ?_
      refine cut_n ?_
      exact ⟨_, Sub.cons rfl (Sub.cons rfl (Sub.nil _)), hK, hpm2, ins_arr (.inl h29)⟩
    simp only [beq_eq_false_iff_ne, ne_eq] at h29
    refine wc_skip ?_
    refine then_n ?_
    repeat refine wc_seq ?_
    refine wc_region ?_
    refine w_val rfl rfl (op_pure rfl) ?_
    refine w_val rfl rfl (op_pure rfl) ?_
    refine w_nil ?_
    refine then_n ?_
    repeat refine wc_seq ?_
    refine wc_condT rfl (fun h31 => ?_) (fun h31 => ?_)
    · simp only [beq_iff_eq] at h31
      refine wc_exit ?_
      repeat first | refine then_x ?_ | refine round_x ?_ | refine cut_x ?_ | refine out_x' (by decide) ?_
      refine out_x ?_
      refine then_n ?_
      repeat refine wc_seq ?_
      refine wc_region ?_
      refine w_val rfl rfl (op_fld rfl rfl rfl rfl (by decide) (by assumption) (Nat.le_of_ble_eq_true rfl)) ?_
      refine w_val rfl rfl (op_load rfl rfl (Pt.fld (by assumption) _ (Nat.le_of_ble_eq_true rfl)) rfl) ?_
      refine w_val rfl rfl (op_len rfl rfl rfl rfl rfl (Row.slenF (by assumption))) ?_
      refine w_val rfl rfl (op_pure rfl) ?_
      refine w_nil ?_
      refine then_n ?_
      refine wc_exit ?_
      repeat first | refine then_x ?_ | refine round_x ?_ | refine cut_x ?_ | refine out_x' (by decide) ?_
      refine out_x ?_
      refine cut_n ?_
      exact ⟨_, Sub.cons rfl (Sub.cons rfl (Sub.nil _)), hK, hpm2, ins_arr (.inr h31)⟩
    simp only [beq_eq_false_iff_ne, ne_eq] at h31
    refine wc_skip ?_
    refine then_n ?_
    repeat refine wc_seq ?_
    refine wc_region ?_
    refine w_val rfl rfl (op_pure rfl) ?_
    refine w_val rfl rfl (op_pure rfl) ?_
    refine w_nil ?_
    refine then_n ?_
    repeat refine wc_seq ?_
    refine wc_condT rfl (fun h33 => ?_) (fun h33 => ?_)
    · simp only [beq_iff_eq] at h33
      refine wc_exit ?_
      repeat first | refine then_x ?_ | refine round_x ?_ | refine cut_x ?_ | refine out_x' (by decide) ?_
      refine out_x ?_
      refine out_n ?_
      refine then_n ?_
      repeat refine wc_seq ?_
      refine wc_region ?_
      refine w_val rfl rfl (op_fld rfl rfl rfl rfl (by decide) (by assumption) (Nat.le_of_ble_eq_true rfl)) ?_
      refine w_val rfl rfl (op_load rfl rfl (Pt.fld (by assumption) _ (Nat.le_of_ble_eq_true rfl)) rfl) ?_
      refine w_val rfl rfl (op_pure rfl) ?_
      refine w_val rfl rfl (op_idx rfl rfl (natA_cast _ _) rfl rfl rfl rfl (Row.keep0 (by assumption) hK) (by omega)) ?_
      refine w_val rfl rfl (op_fld rfl rfl rfl rfl (by decide) (Pt.keep0 (Row.pt (by assumption) (by assumption)) hK) (Nat.le_of_ble_eq_true rfl)) ?_
      refine w_val rfl rfl (op_load rfl rfl (Pt.fld (Pt.keep0 (Row.pt (by assumption) (by assumption)) hK) _ (Nat.le_of_ble_eq_true rfl)) rfl) ?_
      refine w_val rfl rfl (op_len rfl rfl rfl rfl rfl (Row.slenF (by assumption))) ?_
      refine w_val rfl rfl (op_pure rfl) ?_
      refine w_nil ?_
      refine then_n ?_
      refine wc_exit ?_
      repeat first | refine then_x ?_ | refine round_x ?_ | refine cut_x ?_ | refine out_x' (by decide) ?_
      refine out_x ?_
      refine cut_n ?_
      exact ⟨_, Sub.cons rfl (Sub.cons rfl (Sub.nil _)), hK, hpm2, ins_jmp (.inl h33)⟩
    simp only [beq_eq_false_iff_ne, ne_eq] at h33
    refine wc_skip ?_
    refine then_n ?_
    repeat refine wc_seq ?_
    refine wc_region ?_
    refine w_val rfl rfl (op_pure rfl) ?_
    refine w_val rfl rfl (op_pure rfl) ?_
    refine w_nil ?_
    refine then_n ?_
    repeat refine wc_seq ?_
    refine wc_condT rfl (fun h35 => ?_) (fun h35 => ?_)
    · simp only [beq_iff_eq] at h35
      refine wc_exit ?_
      repeat first | refine then_x ?_ | refine round_x ?_ | refine cut_x ?_ | refine out_x' (by decide) ?_
      refine out_x ?_
      refine then_n ?_
      repeat refine wc_seq ?_
      refine wc_region ?_
      refine w_val rfl rfl (op_fld rfl rfl rfl rfl (by decide) (by assumption) (Nat.le_of_ble_eq_true rfl)) ?_
      refine w_val rfl rfl (op_load rfl rfl (Pt.fld (by assumption) _ (Nat.le_of_ble_eq_true rfl)) rfl) ?_
      refine w_val rfl rfl (op_pure rfl) ?_
      refine w_val rfl rfl (op_idx rfl rfl (natA_cast _ _) rfl rfl rfl rfl (Row.keep0 (by assumption) hK) (by omega)) ?_
      refine w_val rfl rfl (op_fld rfl rfl rfl rfl (by decide) (Pt.keep0 (Row.pt (by assumption) (by assumption)) hK) (Nat.le_of_ble_eq_true rfl)) ?_
      refine w_val rfl rfl (op_load rfl rfl (Pt.fld (Pt.keep0 (Row.pt (by assumption) (by assumption)) hK) _ (Nat.le_of_ble_eq_true rfl)) rfl) ?_
      refine w_val rfl rfl (op_len rfl rfl rfl rfl rfl (Row.slenF (by assumption))) ?_
      refine w_val rfl rfl (op_pure rfl) ?_
      refine w_nil ?_
      refine then_n ?_
      refine wc_exit ?_
      repeat first | refine then_x ?_ | refine round_x ?_ | refine cut_x ?_ | refine out_x' (by decide) ?_
      refine out_x ?_
      refine cut_n ?_
      exact ⟨_, Sub.cons rfl (Sub.cons rfl (Sub.nil _)), hK, hpm2, ins_jmp (.inr h35)⟩
    simp only [beq_eq_false_iff_ne, ne_eq] at h35
    refine wc_skip ?_
    refine then_n ?_
    repeat refine wc_seq ?_
    refine wc_region ?_
    refine w_val rfl rfl (op_pure rfl) ?_
    refine w_val rfl rfl (op_pure rfl) ?_
    refine w_nil ?_
    refine then_n ?_
    repeat refine wc_seq ?_
    refine wc_condT rfl (fun h37 => ?_) (fun h37 => ?_)
    · simp only [beq_iff_eq] at h37
      refine wc_exit ?_
      repeat first | refine then_x ?_ | refine round_x ?_ | refine cut_x ?_ | refine out_x' (by decide) ?_
      refine out_x ?_
      refine then_n ?_
      repeat refine wc_seq ?_
      refine wc_region ?_
      refine w_val rfl rfl (op_fld rfl rfl rfl rfl (by decide) (by assumption) (Nat.le_of_ble_eq_true rfl)) ?_
      refine w_val rfl rfl (op_load rfl rfl (Pt.fld (by assumption) _ (Nat.le_of_ble_eq_true rfl)) rfl) ?_
      refine w_val rfl rfl (op_len rfl rfl rfl rfl rfl (by assumption)) ?_
      refine w_val rfl rfl (op_pure rfl) ?_
      refine w_nil ?_
      refine then_n ?_
      refine wc_exit ?_
      repeat first | refine then_x ?_ | refine round_x ?_ | refine cut_x ?_ | refine out_x' (by decide) ?_
      refine out_x ?_
      refine cut_n ?_
      exact ⟨_, Sub.cons rfl (Sub.cons rfl (Sub.nil _)), hK, hpm2, ins_cal h37⟩
    simp only [beq_eq_false_iff_ne, ne_eq] at h37
    refine wc_skip ?_
    refine then_n ?_
    repeat refine wc_seq ?_
    refine wc_region ?_
    refine w_val rfl rfl (op_pure rfl) ?_
    refine w_val rfl rfl (op_pure rfl) ?_
    refine w_nil ?_
    refine then_n ?_
    repeat refine wc_seq ?_
    refine wc_condT rfl (fun h39 => ?_) (fun h39 => ?_)
    · simp only [beq_iff_eq] at h39
      refine wc_exit ?_
      repeat first | refine then_x ?_ | refine round_x ?_ | refine cut_x ?_ | refine out_x' (by decide) ?_
      refine out_x ?_
      refine then_n ?_
      repeat refine wc_seq ?_
      refine wc_region ?_
      refine w_val rfl rfl (op_fld rfl rfl rfl rfl (by decide) (by assumption) (Nat.le_of_ble_eq_true rfl)) ?_
      refine w_val rfl rfl (op_load rfl rfl (Pt.fld (by assumption) _ (Nat.le_of_ble_eq_true rfl)) rfl) ?_
      refine w_val rfl rfl (op_len rfl rfl rfl rfl rfl (Row.slenF (by assumption))) ?_
      refine w_val rfl rfl (op_pure rfl) ?_
      refine w_nil ?_
      refine then_n ?_
      refine wc_exit ?_
      repeat first | refine then_x ?_ | refine round_x ?_ | refine cut_x ?_ | refine out_x' (by decide) ?_
      refine out_x ?_
      refine cut_n ?_
      exact ⟨_, Sub.cons rfl (Sub.cons rfl (Sub.nil _)), hK, hpm2, ins_snd h39⟩
    simp only [beq_eq_false_iff_ne, ne_eq] at h39
    refine wc_skip ?_
    refine then_n ?_
    repeat refine wc_seq ?_
    refine wc_region ?_
    refine w_val rfl rfl (op_pure rfl) ?_
    refine w_val rfl rfl (op_pure rfl) ?_
    refine w_nil ?_
    refine then_n ?_
    repeat refine wc_seq ?_
    refine wc_condT rfl (fun h41 => ?_) (fun h41 => ?_)
    · simp only [beq_iff_eq] at h41
      refine wc_skip ?_
      refine then_n ?_
      repeat refine wc_seq ?_
      refine wc_cond_t rfl ?_
      refine wc_exit ?_
      repeat first | refine then_x ?_ | refine round_x ?_ | refine cut_x ?_ | refine out_x' (by decide) ?_
      refine out_x ?_
      refine then_n ?_
      refine wc_exit ?_
      repeat first | refine then_x ?_ | refine round_x ?_ | refine cut_x ?_ | refine out_x' (by decide) ?_
      refine out_x ?_
      refine cut_n ?_
      exact ⟨_, Sub.cons rfl (Sub.cons rfl (Sub.nil _)), hK, hpm2, ins_one (.inl h41)⟩
    simp only [beq_eq_false_iff_ne, ne_eq] at h41
    repeat refine wc_seq ?_
    refine wc_region ?_
    refine w_val rfl rfl (op_pure rfl) ?_
    refine w_val rfl rfl (op_pure rfl) ?_
    refine w_nil ?_
    refine then_n ?_
    refine wc_condT rfl (fun h41 => ?_) (fun h41 => ?_)
    · simp only [beq_iff_eq] at h41
      refine wc_skip ?_
      refine then_n ?_
      repeat refine wc_seq ?_
      refine wc_cond_t rfl ?_
      refine wc_exit ?_
      repeat first | refine then_x ?_ | refine round_x ?_ | refine cut_x ?_ | refine out_x' (by decide) ?_
      refine out_x ?_
      refine then_n ?_
      refine wc_exit ?_
      repeat first | refine then_x ?_ | refine round_x ?_ | refine cut_x ?_ | refine out_x' (by decide) ?_
      refine out_x ?_
      refine cut_n ?_
      exact ⟨_, Sub.cons rfl (Sub.cons rfl (Sub.nil _)), hK, hpm2, ins_one (.inr (.inl h41))⟩
    simp only [beq_eq_false_iff_ne, ne_eq] at h41
    repeat refine wc_seq ?_
    refine wc_region ?_
    refine w_val rfl rfl (op_pure rfl) ?_
    refine w_val rfl rfl (op_pure rfl) ?_
    refine w_nil ?_
    refine then_n ?_
    refine wc_condT rfl (fun h41 => ?_) (fun h41 => ?_)
    · simp only [beq_iff_eq] at h41
      refine wc_skip ?_
      refine then_n ?_
      repeat refine wc_seq ?_
      refine wc_cond_t rfl ?_
      refine wc_exit ?_
      repeat first | refine then_x ?_ | refine round_x ?_ | refine cut_x ?_ | refine out_x' (by decide) ?_
      refine out_x ?_
      refine then_n ?_
      refine wc_exit ?_
      repeat first | refine then_x ?_ | refine round_x ?_ | refine cut_x ?_ | refine out_x' (by decide) ?_
      refine out_x ?_
      refine cut_n ?_
      exact ⟨_, Sub.cons rfl (Sub.cons rfl (Sub.nil _)), hK, hpm2, ins_one (.inr (.inr (.inl h41)))⟩
    simp only [beq_eq_false_iff_ne, ne_eq] at h41
    repeat refine wc_seq ?_
    refine wc_region ?_
    refine w_val rfl rfl (op_pure rfl) ?_
    refine w_val rfl rfl (op_pure rfl) ?_
    refine w_nil ?_
    refine then_n ?_
    refine wc_condT rfl (fun h41 => ?_) (fun h41 => ?_)
    · simp only [beq_iff_eq] at h41
      refine wc_skip ?_
      refine then_n ?_
      repeat refine wc_seq ?_
      refine wc_cond_t rfl ?_
      refine wc_exit ?_
      repeat first | refine then_x ?_ | refine round_x ?_ | refine cut_x ?_ | refine out_x' (by decide) ?_
      refine out_x ?_
      refine then_n ?_
      refine wc_exit ?_
      repeat first | refine then_x ?_ | refine round_x ?_ | refine cut_x ?_ | refine out_x' (by decide) ?_
      refine out_x ?_
      refine cut_n ?_
      exact ⟨_, Sub.cons rfl (Sub.cons rfl (Sub.nil _)), hK, hpm2, ins_one (.inr (.inr (.inr (.inl h41))))⟩
    simp only [beq_eq_false_iff_ne, ne_eq] at h41
    refine wc_region ?_
    refine w_val rfl rfl (op_pure rfl) ?_
    refine w_val rfl rfl (op_pure rfl) ?_
    refine w_nil ?_
    refine then_n ?_
    repeat refine wc_seq ?_
    refine wc_condT rfl (fun h41 => ?_) (fun h41 => ?_)
    · simp only [beq_iff_eq] at h41
      refine wc_exit ?_
      repeat first | refine then_x ?_ | refine round_x ?_ | refine cut_x ?_ | refine out_x' (by decide) ?_
      refine out_x ?_
      refine then_n ?_
      refine wc_exit ?_
      repeat first | refine then_x ?_ | refine round_x ?_ | refine cut_x ?_ | refine out_x' (by decide) ?_
      refine out_x ?_
      refine cut_n ?_
      exact ⟨_, Sub.cons rfl (Sub.cons rfl (Sub.nil _)), hK, hpm2, ins_one (.inr (.inr (.inr (.inr (.inl h41)))))⟩
    simp only [beq_eq_false_iff_ne, ne_eq] at h41
    refine wc_skip ?_
    refine then_n ?_
    refine wc_exit ?_
    repeat first | refine then_x ?_ | refine round_x ?_ | refine cut_x ?_ | refine out_x' (by decide) ?_
    refine out_x ?_
    refine then_n ?_
    repeat refine wc_seq ?_
    refine wc_region ?_
    refine w_val rfl rfl (op_fld rfl rfl rfl rfl (by decide) (by assumption) (Nat.le_of_ble_eq_true rfl)) ?_
    refine w_val rfl rfl (op_load rfl rfl (by assumption) rfl) ?_
    refine w_val rfl rfl (op_pure rfl) ?_
    refine w_val rfl rfl (op_pure rfl) ?_
    refine w_split (i := 72) rfl (fun h72 => ?_) (fun h72 => ?_)
    · simp only [decide_eq_true_eq] at h72
      refine w_off rfl rfl ?_
      refine w_off rfl rfl ?_
      refine w_off rfl rfl ?_
      refine w_val rfl rfl (op_pure rfl) ?_
      refine w_nil ?_
      refine then_n ?_
      repeat refine wc_seq ?_
      refine wc_cond_t rfl ?_
      repeat refine wc_seq ?_
      refine wc_region ?_
      refine w_val rfl rfl (op_pure rfl) ?_
      refine w_nil ?_
      refine then_n ?_
      refine wc_ret ?_
      repeat first | refine then_r ?_ | refine out_r ?_ | refine round_r ?_ | refine cut_r ?_ | refine sc_r ?_
      refine ⟨_, rfl, hK, congrArg (AV.int .i64) ?_⟩
      exact (ins_bad (by assumption) (by assumption) (by assumption) (by assumption) (by assumption) (by assumption) (by assumption) (by assumption) (by assumption) (by assumption) (by assumption) (by assumption) (by assumption) (by assumption) (by assumption) (by assumption) (.inl h72)).symm
    simp only [decide_eq_false_iff_not] at h72
    refine w_val rfl rfl (op_fld rfl rfl rfl rfl (by decide) (by assumption) (Nat.le_of_ble_eq_true rfl)) ?_
    refine w_val rfl rfl (op_load rfl rfl (by assumption) rfl) ?_
    refine w_val rfl rfl (op_pure rfl) ?_
    refine w_val rfl rfl (op_pure rfl) ?_
    refine w_nil ?_
    refine then_n ?_
    repeat refine wc_seq ?_
    refine wc_condT rfl (fun h76 => ?_) (fun h76 => ?_)
    · simp only [decide_eq_true_eq, gt_iff_lt] at h76
      repeat refine wc_seq ?_
      refine wc_region ?_
      refine w_val rfl rfl (op_pure rfl) ?_
      refine w_nil ?_
      refine then_n ?_
      refine wc_ret ?_
      repeat first | refine then_r ?_ | refine out_r ?_ | refine round_r ?_ | refine cut_r ?_ | refine sc_r ?_
      refine ⟨_, rfl, hK, congrArg (AV.int .i64) ?_⟩
      exact (ins_bad (by assumption) (by assumption) (by assumption) (by assumption) (by assumption) (by assumption) (by assumption) (by assumption) (by assumption) (by assumption) (by assumption) (by assumption) (by assumption) (by assumption) (by assumption) (by assumption) (.inr h76)).symm
    simp only [decide_eq_false_iff_not, gt_iff_lt] at h76
    refine wc_skip ?_
    refine then_n ?_
    refine wc_exit ?_
    repeat first | refine then_x ?_ | refine round_x ?_ | refine cut_x ?_ | refine out_x' (by decide) ?_
    refine out_x ?_
    refine cut_n ?_
    exact ⟨_, Sub.cons rfl (Sub.cons rfl (Sub.nil _)), hK, hpm2, ins_one (.inr (.inr (.inr (.inr (.inr ⟨Int.not_lt.1 h72, Int.not_lt.1 h76⟩)))))⟩
  rintro m s9 ⟨n, hsub, hK, hpm2, hE⟩
  refine then_n ?_
  repeat refine wc_seq ?_
  refine wc_sub hsub ?_
  clear hsub
  refine wc_region ?_
  refine w_val rfl rfl (op_fld rfl rfl rfl rfl (by decide) (by assumption) (Nat.le_of_ble_eq_true rfl)) ?_
  refine w_val rfl rfl (op_load rfl rfl (Pt.fld (by assumption) _ (Nat.le_of_ble_eq_true rfl)) rfl) ?_
  refine w_val rfl rfl (op_pure rfl) ?_
  refine w_val rfl rfl (op_pure rfl) ?_
  refine w_split (i := 80) rfl (fun h80 => ?_) (fun h80 => ?_)
  · simp only [decide_eq_true_eq] at h80
    refine w_off rfl rfl ?_
    refine w_off rfl rfl ?_
    refine w_off rfl rfl ?_
    refine w_off rfl rfl ?_
    refine w_val rfl rfl (op_pure rfl) ?_
    refine w_nil ?_
    refine then_n ?_
    repeat refine wc_seq ?_
    refine wc_cond_t rfl ?_
    repeat refine wc_seq ?_
    refine wc_region ?_
    refine w_val rfl rfl (op_pure rfl) ?_
    refine w_nil ?_
    refine then_n ?_
    refine wc_ret ?_
    repeat first | refine then_r ?_ | refine out_r ?_ | refine round_r ?_ | refine cut_r ?_ | refine sc_r ?_
    refine ⟨_, rfl, hK, congrArg (AV.int .i64) ?_⟩
    rw [hE]
    unfold rngE
    (repeat' split) <;> omega
  simp only [decide_eq_false_iff_not] at h80
  refine w_val rfl rfl (op_fld rfl rfl rfl rfl (by decide) (by assumption) (Nat.le_of_ble_eq_true rfl)) ?_
  refine w_val rfl rfl (op_load rfl rfl (Pt.fld (by assumption) _ (Nat.le_of_ble_eq_true rfl)) rfl) ?_
  refine w_val rfl rfl (op_pure rfl) ?_
  refine w_val rfl rfl (op_pure rfl) ?_
  refine w_val rfl rfl (op_pure rfl) ?_
  refine w_nil ?_
  refine then_n ?_
  repeat refine wc_seq ?_
  refine wc_condT rfl (fun h85 => ?_) (fun h85 => ?_)
  · simp only [decide_eq_true_eq, ge_iff_le] at h85
    repeat refine wc_seq ?_
    refine wc_region ?_
    refine w_val rfl rfl (op_pure rfl) ?_
    refine w_nil ?_
    refine then_n ?_
    refine wc_ret ?_
    repeat first | refine then_r ?_ | refine out_r ?_ | refine round_r ?_ | refine cut_r ?_ | refine sc_r ?_
    refine ⟨_, rfl, hK, congrArg (AV.int .i64) ?_⟩
    rw [hE]
    unfold rngE
    (repeat' split) <;> omega
  simp only [decide_eq_false_iff_not, ge_iff_le] at h85
  refine wc_skip ?_
  refine then_n ?_
  repeat refine wc_seq ?_
  refine wc_region ?_
  refine w_val rfl rfl (op_pure rfl) ?_
  refine w_nil ?_
  refine then_n ?_
  refine wc_ret ?_
  repeat first | refine then_r ?_ | refine out_r ?_ | refine round_r ?_ | refine cut_r ?_ | refine sc_r ?_
  refine ⟨_, rfl, hK, congrArg (AV.int .i64) ?_⟩
  rw [hE]
  unfold rngE
  (repeat' split) <;> omega
set_option maxRecDepth 10000 in
set_option maxHeartbeats 4000000 in
theorem room_ok {s : St} {c : List AV} {mm : ModL} {x : FuncL} {f : Nat} {op : Int} (hok : s.Ok) (hm : mm.small) (hx : mm.funcs[f]? = some x) (hv : ModR s.h mm c) :
    CallS Try.prog Tt Kt 116 [.agg c, .int .i64 (f : Nat), .int .i64 op] s (fun v s' => Keep [] s s' ∧ v = .int .i64 (roomE mm x op)) := by
  have hz := hv.leaf.2
  have hv' := hv
  obtain ⟨vg, va, vh, vf, rfl, hvg, hva, hvh, csf, hrf, hlf, hF⟩ := hv'
  have hsx := hm.2.2.2.2 x (List.mem_of_getElem? hx)
  obtain ⟨hl1, hl3, hl2, hl4, -⟩ := (id hm)
  obtain ⟨hx1, hx2, hx3⟩ := hsx
  refine call_of (fn := Try.f116) (nt := 60) Try.func116 rfl rfl rfl ?_
  repeat refine wc_seq ?_
  refine wc_region ?_
  refine w_box rfl rfl rfl hz hok ?_
  intro s1 hp1 hk1 hc1
  have hK := (Keep.refl hok).two hk1
  have hpm1 : Pt s1.h (.ptr s.ctr 0 0) [vg, va, vh, vf] := hp1
  clear hp1
  have hf : f < mm.funcs.length := (List.getElem?_eq_some_iff.1 hx).1
  have hsf : vf.slen = some mm.funcs.length := hrf.slen.trans (congrArg some hlf)
  obtain ⟨cx, hcx⟩ : ∃ c, csf[f]? = some c := ⟨_, List.getElem?_eq_getElem (by omega)⟩
  obtain ⟨vp, vr, vc, rfl, hvp, hvr, hvc⟩ := hF f x cx hx hcx
  refine w_val rfl rfl (op_pure rfl) ?_
  refine w_nil ?_
  refine then_n ?_
  repeat refine wc_seq ?_
  refine wc_cut (fun m' s' => ∃ b : Bool, Sub [(3, .ptr s.ctr 0 0), (1, .int .i64 (f : Nat)), (2, .int .i64 op), (12, .bool b)] m' ∧ s' = s1 ∧ (b = true ↔ 1 ≤ op ∧ op ≤ 17)) ?_ ?_
  · skip
    refine wc_region ?_
    refine w_val rfl rfl (op_pure rfl) ?_
    refine w_val rfl rfl (op_pure rfl) ?_
    refine w_val rfl rfl (op_pure rfl) ?_
    refine w_split (i := 9) rfl (fun h9 => ?_) (fun h9 => ?_)
    · simp only [decide_eq_true_eq, ge_iff_le] at h9
      refine w_val rfl rfl (op_pure rfl) ?_
      refine w_val rfl rfl (op_pure rfl) ?_
      refine w_val rfl rfl (op_pure rfl) ?_
      refine w_nil ?_
      refine cut_n ?_
      exact ⟨_, Sub.cons rfl (Sub.cons rfl (Sub.cons rfl (Sub.cons rfl (Sub.nil _)))), rfl, by rw [decide_eq_true_eq]; omega⟩
    simp only [decide_eq_false_iff_not, ge_iff_le] at h9
    refine w_off rfl rfl ?_
    refine w_off rfl rfl ?_
    refine w_val rfl rfl (op_pure rfl) ?_
    refine w_nil ?_
    refine cut_n ?_
    exact ⟨false, Sub.cons rfl (Sub.cons rfl (Sub.cons rfl (Sub.cons rfl (Sub.nil _)))), rfl, by constructor; intro h; cases h; intro h; omega⟩
  rintro m sX ⟨b, hsub, eX, hb⟩
  obtain rfl := eX.symm
  refine then_n ?_
  refine wc_sub hsub ?_
  clear hsub
  repeat refine wc_seq ?_
  refine wc_condT rfl (fun h12 => ?_) (fun h12 => ?_)
  · skip
    repeat refine wc_seq ?_
    refine wc_region ?_
    refine w_val rfl rfl (op_pure rfl) ?_
    refine w_nil ?_
    refine then_n ?_
    refine wc_ret ?_
    repeat first | refine then_r ?_ | refine out_r ?_ | refine round_r ?_ | refine cut_r ?_ | refine sc_r ?_
    refine ⟨_, rfl, hK, congrArg (AV.int .i64) ?_⟩
    exact (rm_one (hb.1 h12)).symm
  skip
  refine wc_skip ?_
  refine then_n ?_
  repeat refine wc_seq ?_
  refine wc_region ?_
  refine w_val rfl rfl (op_pure rfl) ?_
  refine w_nil ?_
  refine then_n ?_
  repeat refine wc_seq ?_
  refine wc_block ?_
  repeat refine wc_seq ?_
  refine wc_region ?_
  refine w_val rfl rfl (op_pure rfl) ?_
  refine w_val rfl rfl (op_pure rfl) ?_
  refine w_nil ?_
  refine then_n ?_
  refine wc_condT rfl (fun h14 => ?_) (fun h14 => ?_)
  · simp only [beq_iff_eq] at h14
    repeat refine wc_seq ?_
    refine wc_region ?_
    refine w_val rfl rfl (op_pure rfl) ?_
    refine w_nil ?_
    refine then_n ?_
    refine wc_ret ?_
    repeat first | refine then_r ?_ | refine out_r ?_ | refine round_r ?_ | refine cut_r ?_ | refine sc_r ?_
    refine ⟨_, rfl, hK, congrArg (AV.int .i64) ?_⟩
    exact (rm_any h14).symm
  simp only [beq_eq_false_iff_ne, ne_eq] at h14
  repeat refine wc_seq ?_
  refine wc_region ?_
  refine w_val rfl rfl (op_pure rfl) ?_
  refine w_val rfl rfl (op_pure rfl) ?_
  refine w_nil ?_
  refine then_n ?_
  repeat refine wc_seq ?_
  refine wc_condT rfl (fun h16 => ?_) (fun h16 => ?_)
  · simp only [beq_iff_eq] at h16
    refine wc_skip ?_
    refine then_n ?_
    refine wc_cond_t rfl ?_
    repeat refine wc_seq ?_
    refine wc_region ?_
    refine w_val rfl rfl (op_load rfl rfl (by assumption) rfl) ?_
    refine w_val rfl rfl (op_pure rfl) ?_
    refine w_call rfl rfl (op_call rfl rfl rfl rfl) (locals_ref_ok hK.ok hm hx (by exact hv.keep0 hK)) ?_
    rintro _ s3 ⟨hk3, rfl⟩
    have hK := hK.two hk3
    have hpm1 := hpm1.keep0 hk3
    refine w_val rfl rfl (op_pure rfl) ?_
    refine w_nil ?_
    refine then_n ?_
    refine wc_ret ?_
    repeat first | refine then_r ?_ | refine out_r ?_ | refine round_r ?_ | refine cut_r ?_ | refine sc_r ?_
    refine ⟨_, rfl, hK, congrArg (AV.int .i64) ?_⟩
    exact (rm_loc (.inl h16)).symm
  simp only [beq_eq_false_iff_ne, ne_eq] at h16
  refine wc_region ?_
  refine w_val rfl rfl (op_pure rfl) ?_
  refine w_val rfl rfl (op_pure rfl) ?_
  refine w_nil ?_
  refine then_n ?_
  refine wc_condT rfl (fun h16 => ?_) (fun h16 => ?_)
  · simp only [beq_iff_eq] at h16
    repeat refine wc_seq ?_
    refine wc_region ?_
    refine w_val rfl rfl (op_load rfl rfl (by assumption) rfl) ?_
    refine w_val rfl rfl (op_pure rfl) ?_
    refine w_call rfl rfl (op_call rfl rfl rfl rfl) (locals_ref_ok hK.ok hm hx (by exact hv.keep0 hK)) ?_
    rintro _ s3 ⟨hk3, rfl⟩
    have hK := hK.two hk3
    have hpm1 := hpm1.keep0 hk3
    refine w_val rfl rfl (op_pure rfl) ?_
    refine w_nil ?_
    refine then_n ?_
    refine wc_ret ?_
    repeat first | refine then_r ?_ | refine out_r ?_ | refine round_r ?_ | refine cut_r ?_ | refine sc_r ?_
    refine ⟨_, rfl, hK, congrArg (AV.int .i64) ?_⟩
    exact (rm_loc (.inr h16)).symm
  simp only [beq_eq_false_iff_ne, ne_eq] at h16
  repeat refine wc_seq ?_
  refine wc_region ?_
  refine w_val rfl rfl (op_pure rfl) ?_
  refine w_val rfl rfl (op_pure rfl) ?_
  refine w_nil ?_
  refine then_n ?_
  repeat refine wc_seq ?_
  refine wc_condT rfl (fun h22 => ?_) (fun h22 => ?_)
  · simp only [beq_iff_eq] at h22
    refine wc_skip ?_
    refine then_n ?_
    refine wc_cond_t rfl ?_
    repeat refine wc_seq ?_
    refine wc_region ?_
    refine w_val rfl rfl (op_fld rfl rfl rfl rfl (by decide) (by assumption) (Nat.le_of_ble_eq_true rfl)) ?_
    refine w_val rfl rfl (op_load rfl rfl (by assumption) rfl) ?_
    refine w_val rfl rfl (op_len rfl rfl rfl rfl rfl (Row.slenF (by assumption))) ?_
    refine w_val rfl rfl (op_pure rfl) ?_
    refine w_nil ?_
    refine then_n ?_
    refine wc_ret ?_
    repeat first | refine then_r ?_ | refine out_r ?_ | refine round_r ?_ | refine cut_r ?_ | refine sc_r ?_
    refine ⟨_, rfl, hK, congrArg (AV.int .i64) ?_⟩
    exact (rm_glo (.inl h22)).symm
  simp only [beq_eq_false_iff_ne, ne_eq] at h22
  refine wc_region ?_
  refine w_val rfl rfl (op_pure rfl) ?_
  refine w_val rfl rfl (op_pure rfl) ?_
  refine w_nil ?_
  refine then_n ?_
  refine wc_condT rfl (fun h22 => ?_) (fun h22 => ?_)
  · simp only [beq_iff_eq] at h22
    repeat refine wc_seq ?_
    refine wc_region ?_
    refine w_val rfl rfl (op_fld rfl rfl rfl rfl (by decide) (by assumption) (Nat.le_of_ble_eq_true rfl)) ?_
    refine w_val rfl rfl (op_load rfl rfl (by assumption) rfl) ?_
    refine w_val rfl rfl (op_len rfl rfl rfl rfl rfl (Row.slenF (by assumption))) ?_
    refine w_val rfl rfl (op_pure rfl) ?_
    refine w_nil ?_
    refine then_n ?_
    refine wc_ret ?_
    repeat first | refine then_r ?_ | refine out_r ?_ | refine round_r ?_ | refine cut_r ?_ | refine sc_r ?_
    refine ⟨_, rfl, hK, congrArg (AV.int .i64) ?_⟩
    exact (rm_glo (.inr h22)).symm
  simp only [beq_eq_false_iff_ne, ne_eq] at h22
  repeat refine wc_seq ?_
  refine wc_region ?_
  refine w_val rfl rfl (op_pure rfl) ?_
  refine w_val rfl rfl (op_pure rfl) ?_
  refine w_nil ?_
  refine then_n ?_
  repeat refine wc_seq ?_
  refine wc_condT rfl (fun h28 => ?_) (fun h28 => ?_)
  · simp only [beq_iff_eq] at h28
    refine wc_skip ?_
    refine then_n ?_
    refine wc_cond_t rfl ?_
    repeat refine wc_seq ?_
    refine wc_region ?_
    refine w_val rfl rfl (op_fld rfl rfl rfl rfl (by decide) (by assumption) (Nat.le_of_ble_eq_true rfl)) ?_
    refine w_val rfl rfl (op_load rfl rfl (Pt.fld (by assumption) _ (Nat.le_of_ble_eq_true rfl)) rfl) ?_
    refine w_val rfl rfl (op_len rfl rfl rfl rfl rfl (Row.slenF (by assumption))) ?_
    refine w_val rfl rfl (op_pure rfl) ?_
    refine w_nil ?_
    refine then_n ?_
    refine wc_ret ?_
    repeat first | refine then_r ?_ | refine out_r ?_ | refine round_r ?_ | refine cut_r ?_ | refine sc_r ?_
    refine ⟨_, rfl, hK, congrArg (AV.int .i64) ?_⟩
    exact (rm_arr (.inl h28)).symm
  simp only [beq_eq_false_iff_ne, ne_eq] at h28
  refine wc_region ?_
  refine w_val rfl rfl (op_pure rfl) ?_
  refine w_val rfl rfl (op_pure rfl) ?_
  refine w_nil ?_
  refine then_n ?_
  refine wc_condT rfl (fun h28 => ?_) (fun h28 => ?_)
  · simp only [beq_iff_eq] at h28
    repeat refine wc_seq ?_
    refine wc_region ?_
    refine w_val rfl rfl (op_fld rfl rfl rfl rfl (by decide) (by assumption) (Nat.le_of_ble_eq_true rfl)) ?_
    refine w_val rfl rfl (op_load rfl rfl (Pt.fld (by assumption) _ (Nat.le_of_ble_eq_true rfl)) rfl) ?_
    refine w_val rfl rfl (op_len rfl rfl rfl rfl rfl (Row.slenF (by assumption))) ?_
    refine w_val rfl rfl (op_pure rfl) ?_
    refine w_nil ?_
    refine then_n ?_
    refine wc_ret ?_
    repeat first | refine then_r ?_ | refine out_r ?_ | refine round_r ?_ | refine cut_r ?_ | refine sc_r ?_
    refine ⟨_, rfl, hK, congrArg (AV.int .i64) ?_⟩
    exact (rm_arr (.inr h28)).symm
  simp only [beq_eq_false_iff_ne, ne_eq] at h28
  repeat refine wc_seq ?_
  refine wc_region ?_
  refine w_val rfl rfl (op_pure rfl) ?_
  refine w_val rfl rfl (op_pure rfl) ?_
  refine w_nil ?_
  refine then_n ?_
  repeat refine wc_seq ?_
  refine wc_condT rfl (fun h34 => ?_) (fun h34 => ?_)
  · simp only [beq_iff_eq] at h34
    refine wc_skip ?_
    refine then_n ?_
    refine wc_cond_t rfl ?_
    repeat refine wc_seq ?_
    refine wc_region ?_
    refine w_val rfl rfl (op_pure rfl) ?_
    refine w_nil ?_
    refine then_n ?_
    refine wc_ret ?_
    repeat first | refine then_r ?_ | refine out_r ?_ | refine round_r ?_ | refine cut_r ?_ | refine sc_r ?_
    refine ⟨_, rfl, hK, congrArg (AV.int .i64) ?_⟩
    exact (rm_one' (.inl h34)).symm
  simp only [beq_eq_false_iff_ne, ne_eq] at h34
  repeat refine wc_seq ?_
  refine wc_region ?_
  refine w_val rfl rfl (op_pure rfl) ?_
  refine w_val rfl rfl (op_pure rfl) ?_
  refine w_nil ?_
  refine then_n ?_
  refine wc_condT rfl (fun h34 => ?_) (fun h34 => ?_)
  · simp only [beq_iff_eq] at h34
    refine wc_skip ?_
    refine then_n ?_
    refine wc_cond_t rfl ?_
    repeat refine wc_seq ?_
    refine wc_region ?_
    refine w_val rfl rfl (op_pure rfl) ?_
    refine w_nil ?_
    refine then_n ?_
    refine wc_ret ?_
    repeat first | refine then_r ?_ | refine out_r ?_ | refine round_r ?_ | refine cut_r ?_ | refine sc_r ?_
    refine ⟨_, rfl, hK, congrArg (AV.int .i64) ?_⟩
    exact (rm_one' (.inr (.inl h34))).symm
  simp only [beq_eq_false_iff_ne, ne_eq] at h34
  repeat refine wc_seq ?_
  refine wc_region ?_
  refine w_val rfl rfl (op_pure rfl) ?_
  refine w_val rfl rfl (op_pure rfl) ?_
  refine w_nil ?_
  refine then_n ?_
  refine wc_condT rfl (fun h34 => ?_) (fun h34 => ?_)
  · simp only [beq_iff_eq] at h34
    refine wc_skip ?_
    refine then_n ?_
    refine wc_cond_t rfl ?_
    repeat refine wc_seq ?_
    refine wc_region ?_
    refine w_val rfl rfl (op_pure rfl) ?_
    refine w_nil ?_
    refine then_n ?_
    refine wc_ret ?_
    repeat first | refine then_r ?_ | refine out_r ?_ | refine round_r ?_ | refine cut_r ?_ | refine sc_r ?_
    refine ⟨_, rfl, hK, congrArg (AV.int .i64) ?_⟩
    exact (rm_one' (.inr (.inr (.inl h34)))).symm
  simp only [beq_eq_false_iff_ne, ne_eq] at h34
  repeat refine wc_seq ?_
  refine wc_region ?_
  refine w_val rfl rfl (op_pure rfl) ?_
  refine w_val rfl rfl (op_pure rfl) ?_
  refine w_nil ?_
  refine then_n ?_
  refine wc_condT rfl (fun h34 => ?_) (fun h34 => ?_)
  · simp only [beq_iff_eq] at h34
    refine wc_skip ?_
    refine then_n ?_
    refine wc_cond_t rfl ?_
    repeat refine wc_seq ?_
    refine wc_region ?_
    refine w_val rfl rfl (op_pure rfl) ?_
    refine w_nil ?_
    refine then_n ?_
    refine wc_ret ?_
    repeat first | refine then_r ?_ | refine out_r ?_ | refine round_r ?_ | refine cut_r ?_ | refine sc_r ?_
    refine ⟨_, rfl, hK, congrArg (AV.int .i64) ?_⟩
    exact (rm_one' (.inr (.inr (.inr (.inl h34))))).symm
  simp only [beq_eq_false_iff_ne, ne_eq] at h34
  refine wc_region ?_
  refine w_val rfl rfl (op_pure rfl) ?_
  refine w_val rfl rfl (op_pure rfl) ?_
  refine w_nil ?_
  refine then_n ?_
  refine wc_condT rfl (fun h34 => ?_) (fun h34 => ?_)
  · simp only [beq_iff_eq] at h34
    repeat refine wc_seq ?_
    refine wc_region ?_
    refine w_val rfl rfl (op_pure rfl) ?_
    refine w_nil ?_
    refine then_n ?_
    refine wc_ret ?_
    repeat first | refine then_r ?_ | refine out_r ?_ | refine round_r ?_ | refine cut_r ?_ | refine sc_r ?_
    refine ⟨_, rfl, hK, congrArg (AV.int .i64) ?_⟩
    exact (rm_one' (.inr (.inr (.inr (.inr h34))))).symm
  simp only [beq_eq_false_iff_ne, ne_eq] at h34
  repeat refine wc_seq ?_
  refine wc_region ?_
  refine w_val rfl rfl (op_pure rfl) ?_
  refine w_val rfl rfl (op_pure rfl) ?_
  refine w_nil ?_
  refine then_n ?_
  repeat refine wc_seq ?_
  refine wc_condT rfl (fun h40 => ?_) (fun h40 => ?_)
  · simp only [beq_iff_eq] at h40
    refine wc_skip ?_
    refine then_n ?_
    refine wc_cond_t rfl ?_
    repeat refine wc_seq ?_
    refine wc_region ?_
    refine w_val rfl rfl (op_fld rfl rfl rfl rfl (by decide) (by assumption) (Nat.le_of_ble_eq_true rfl)) ?_
    refine w_val rfl rfl (op_load rfl rfl (Pt.fld (by assumption) _ (Nat.le_of_ble_eq_true rfl)) rfl) ?_
    refine w_val rfl rfl (op_pure rfl) ?_
    refine w_val rfl rfl (op_idx rfl rfl (natA_cast _ _) rfl rfl rfl rfl (Row.keep0 (by assumption) hK) (by omega)) ?_
    refine w_val rfl rfl (op_fld rfl rfl rfl rfl (by decide) (Pt.keep0 (Row.pt (by assumption) (by assumption)) hK) (Nat.le_of_ble_eq_true rfl)) ?_
    refine w_val rfl rfl (op_load rfl rfl (Pt.fld (Pt.keep0 (Row.pt (by assumption) (by assumption)) hK) _ (Nat.le_of_ble_eq_true rfl)) rfl) ?_
    refine w_val rfl rfl (op_len rfl rfl rfl rfl rfl (Row.slenF (by assumption))) ?_
    refine w_val rfl rfl (op_pure rfl) ?_
    refine w_nil ?_
    refine then_n ?_
    refine wc_ret ?_
    repeat first | refine then_r ?_ | refine out_r ?_ | refine round_r ?_ | refine cut_r ?_ | refine sc_r ?_
    refine ⟨_, rfl, hK, congrArg (AV.int .i64) ?_⟩
    exact (rm_jmp (.inl h40)).symm
  simp only [beq_eq_false_iff_ne, ne_eq] at h40
  refine wc_region ?_
  refine w_val rfl rfl (op_pure rfl) ?_
  refine w_val rfl rfl (op_pure rfl) ?_
  refine w_nil ?_
  refine then_n ?_
  refine wc_condT rfl (fun h40 => ?_) (fun h40 => ?_)
  · simp only [beq_iff_eq] at h40
    repeat refine wc_seq ?_
    refine wc_region ?_
    refine w_val rfl rfl (op_fld rfl rfl rfl rfl (by decide) (by assumption) (Nat.le_of_ble_eq_true rfl)) ?_
    refine w_val rfl rfl (op_load rfl rfl (Pt.fld (by assumption) _ (Nat.le_of_ble_eq_true rfl)) rfl) ?_
    refine w_val rfl rfl (op_pure rfl) ?_
    refine w_val rfl rfl (op_idx rfl rfl (natA_cast _ _) rfl rfl rfl rfl (Row.keep0 (by assumption) hK) (by omega)) ?_
    refine w_val rfl rfl (op_fld rfl rfl rfl rfl (by decide) (Pt.keep0 (Row.pt (by assumption) (by assumption)) hK) (Nat.le_of_ble_eq_true rfl)) ?_
    refine w_val rfl rfl (op_load rfl rfl (Pt.fld (Pt.keep0 (Row.pt (by assumption) (by assumption)) hK) _ (Nat.le_of_ble_eq_true rfl)) rfl) ?_
    refine w_val rfl rfl (op_len rfl rfl rfl rfl rfl (Row.slenF (by assumption))) ?_
    refine w_val rfl rfl (op_pure rfl) ?_
    refine w_nil ?_
    refine then_n ?_
    refine wc_ret ?_
    repeat first | refine then_r ?_ | refine out_r ?_ | refine round_r ?_ | refine cut_r ?_ | refine sc_r ?_
    refine ⟨_, rfl, hK, congrArg (AV.int .i64) ?_⟩
    exact (rm_jmp (.inr h40)).symm
  simp only [beq_eq_false_iff_ne, ne_eq] at h40
  repeat refine wc_seq ?_
  refine wc_region ?_
  refine w_val rfl rfl (op_pure rfl) ?_
  refine w_val rfl rfl (op_pure rfl) ?_
  refine w_nil ?_
  refine then_n ?_
  refine wc_condT rfl (fun h50 => ?_) (fun h50 => ?_)
  · simp only [beq_iff_eq] at h50
    repeat refine wc_seq ?_
    refine wc_region ?_
    refine w_val rfl rfl (op_fld rfl rfl rfl rfl (by decide) (by assumption) (Nat.le_of_ble_eq_true rfl)) ?_
    refine w_val rfl rfl (op_load rfl rfl (Pt.fld (by assumption) _ (Nat.le_of_ble_eq_true rfl)) rfl) ?_
    refine w_val rfl rfl (op_len rfl rfl rfl rfl rfl (by assumption)) ?_
    refine w_val rfl rfl (op_pure rfl) ?_
    refine w_nil ?_
    refine then_n ?_
    refine wc_ret ?_
    repeat first | refine then_r ?_ | refine out_r ?_ | refine round_r ?_ | refine cut_r ?_ | refine sc_r ?_
    refine ⟨_, rfl, hK, congrArg (AV.int .i64) ?_⟩
    exact (rm_cal h50).symm
  simp only [beq_eq_false_iff_ne, ne_eq] at h50
  repeat refine wc_seq ?_
  refine wc_region ?_
  refine w_val rfl rfl (op_pure rfl) ?_
  refine w_val rfl rfl (op_pure rfl) ?_
  refine w_nil ?_
  refine then_n ?_
  refine wc_condT rfl (fun h55 => ?_) (fun h55 => ?_)
  · simp only [beq_iff_eq] at h55
    repeat refine wc_seq ?_
    refine wc_region ?_
    refine w_val rfl rfl (op_fld rfl rfl rfl rfl (by decide) (by assumption) (Nat.le_of_ble_eq_true rfl)) ?_
    refine w_val rfl rfl (op_load rfl rfl (Pt.fld (by assumption) _ (Nat.le_of_ble_eq_true rfl)) rfl) ?_
    refine w_val rfl rfl (op_len rfl rfl rfl rfl rfl (Row.slenF (by assumption))) ?_
    refine w_val rfl rfl (op_pure rfl) ?_
    refine w_nil ?_
    refine then_n ?_
    refine wc_ret ?_
    repeat first | refine then_r ?_ | refine out_r ?_ | refine round_r ?_ | refine cut_r ?_ | refine sc_r ?_
    refine ⟨_, rfl, hK, congrArg (AV.int .i64) ?_⟩
    exact (rm_snd h55).symm
  simp only [beq_eq_false_iff_ne, ne_eq] at h55
  refine wc_skip ?_
  refine out_n ?_
  refine then_n ?_
  repeat refine wc_seq ?_
  refine wc_region ?_
  refine w_val rfl rfl (op_pure rfl) ?_
  refine w_nil ?_
  refine then_n ?_
  refine wc_ret ?_
  repeat first | refine then_r ?_ | refine out_r ?_ | refine round_r ?_ | refine cut_r ?_ | refine sc_r ?_
  refine ⟨_, rfl, hK, congrArg (AV.int .i64) ?_⟩
  exact (rm_bad (fun k => by rw [h12] at hb; exact Bool.false_ne_true (hb.2 k)) (by assumption) (by assumption) (by assumption) (by assumption) (by assumption) (by assumption) (by assumption) (by assumption) (by assumption) (by assumption) (by assumption) (by assumption) (by assumption) (by assumption) (by assumption) (by assumption)).symm
set_option maxRecDepth 10000 in
set_option maxHeartbeats 4000000 in
theorem instr_ref_ok {s : St} {c : List AV} {mm : ModL} {x : FuncL} {f : Nat} {y : InstrL} (hok : s.Ok) (hm : mm.small) (hx : mm.funcs[f]? = some x) (hv : ModR s.h mm c) :
    CallS Try.prog Tt Kt 109 [.agg c, .int .i64 (f : Nat), .agg (inC y)] s (fun v s' => Keep [] s s' ∧ v = .int .i64 (instrE mm x y)) := by
  have hz := hv.leaf.2
  have hv' := hv
  obtain ⟨vg, va, vh, vf, rfl, hvg, hva, hvh, csf, hrf, hlf, hF⟩ := hv'
  have hsx := hm.2.2.2.2 x (List.mem_of_getElem? hx)
  obtain ⟨hl1, hl3, hl2, hl4, -⟩ := (id hm)
  obtain ⟨hx1, hx2, hx3⟩ := hsx
  refine call_of (fn := Try.f109) (nt := 37) Try.func109 rfl rfl rfl ?_
  repeat refine wc_seq ?_
  refine wc_region ?_
  refine w_box rfl rfl rfl hz hok ?_
  intro s1 hp1 hk1 hc1
  have hK := (Keep.refl hok).two hk1
  have hpm1 : Pt s1.h (.ptr s.ctr 0 0) [vg, va, vh, vf] := hp1
  clear hp1
  refine w_box rfl rfl rfl rfl hK.ok ?_
  intro s2 hp2 hk2 hc2
  have hK := hK.two hk2
  have hpm2 : Pt s2.h (.ptr s1.ctr 0 0) [.int .i64 y.op, .int .i64 y.a] := hp2
  clear hp2
  have hpm1 := hpm1.keep0 hk2
  have hf : f < mm.funcs.length := (List.getElem?_eq_some_iff.1 hx).1
  have hsf : vf.slen = some mm.funcs.length := hrf.slen.trans (congrArg some hlf)
  obtain ⟨cx, hcx⟩ : ∃ c, csf[f]? = some c := ⟨_, List.getElem?_eq_getElem (by omega)⟩
  obtain ⟨vp, vr, vc, rfl, hvp, hvr, hvc⟩ := hF f x cx hx hcx
  refine w_val rfl rfl (op_pure rfl) ?_
  refine w_nil ?_
  refine then_n ?_
  repeat refine wc_seq ?_
  refine wc_region ?_
  refine w_val rfl rfl (op_pure rfl) ?_
  refine w_val rfl rfl (op_pure rfl) ?_
  refine w_val rfl rfl (op_pure rfl) ?_
  refine w_split (i := 10) rfl (fun h10 => ?_) (fun h10 => ?_)
  · simp only [decide_eq_true_eq] at h10; omega
  clear h10
  refine w_val rfl rfl (op_pure rfl) ?_
  refine w_val rfl rfl (op_fld rfl rfl rfl rfl (by decide) (by assumption) (Nat.le_of_ble_eq_true rfl)) ?_
  refine w_val rfl rfl (op_load rfl rfl (Pt.fld (by assumption) _ (Nat.le_of_ble_eq_true rfl)) rfl) ?_
  refine w_val rfl rfl (op_len rfl rfl rfl rfl rfl (by assumption)) ?_
  refine w_val rfl rfl (op_pure rfl) ?_
  refine w_val rfl rfl (op_pure rfl) ?_
  refine w_nil ?_
  refine then_n ?_
  repeat refine wc_seq ?_
  refine wc_condT rfl (fun h16 => ?_) (fun h16 => ?_)
  · simp only [decide_eq_true_eq, ge_iff_le] at h16; omega
  clear h16
  refine wc_skip ?_
  refine then_n ?_
  repeat refine wc_seq ?_
  refine wc_region ?_
  refine w_val rfl rfl (op_load rfl rfl (by assumption) rfl) ?_
  refine w_val rfl rfl (op_pure rfl) ?_
  refine w_val rfl rfl (op_fld rfl rfl rfl rfl (by decide) (by assumption) (Nat.le_of_ble_eq_true rfl)) ?_
  refine w_val rfl rfl (op_load rfl rfl (by assumption) rfl) ?_
  refine w_call rfl rfl (op_call rfl rfl rfl rfl) (room_ok (op := y.op) hK.ok hm hx (by exact hv.keep0 hK)) ?_
  rintro _ s3 ⟨hk3, rfl⟩
  have hK := hK.two hk3
  have hpm1 := hpm1.keep0 hk3
  have hpm2 := hpm2.keep0 hk3
  refine w_val rfl rfl (op_pure rfl) ?_
  refine w_nil ?_
  refine then_n ?_
  repeat refine wc_seq ?_
  refine wc_region ?_
  refine w_val rfl rfl (op_pure rfl) ?_
  refine w_val rfl rfl (op_pure rfl) ?_
  refine w_nil ?_
  refine then_n ?_
  repeat refine wc_seq ?_
  refine wc_condT rfl (fun h23 => ?_) (fun h23 => ?_)
  · simp only [beq_iff_eq] at h23
    repeat refine wc_seq ?_
    refine wc_region ?_
    refine w_val rfl rfl (op_pure rfl) ?_
    refine w_nil ?_
    refine then_n ?_
    refine wc_ret ?_
    repeat first | refine then_r ?_ | refine out_r ?_ | refine round_r ?_ | refine cut_r ?_ | refine sc_r ?_
    refine ⟨_, rfl, hK, congrArg (AV.int .i64) ?_⟩
    rw [instr_room]
    unfold instr2E
    (repeat' split) <;> omega
  simp only [beq_eq_false_iff_ne, ne_eq] at h23
  refine wc_skip ?_
  refine then_n ?_
  repeat refine wc_seq ?_
  refine wc_region ?_
  refine w_val rfl rfl (op_pure rfl) ?_
  refine w_val rfl rfl (op_pure rfl) ?_
  refine w_val rfl rfl (op_pure rfl) ?_
  refine w_split (i := 26) rfl (fun h26 => ?_) (fun h26 => ?_)
  · simp only [decide_eq_true_eq, ge_iff_le] at h26
    refine w_val rfl rfl (op_fld rfl rfl rfl rfl (by decide) (by assumption) (Nat.le_of_ble_eq_true rfl)) ?_
    refine w_val rfl rfl (op_load rfl rfl (Pt.fld (by assumption) _ (Nat.le_of_ble_eq_true rfl)) rfl) ?_
    refine w_val rfl rfl (op_pure rfl) ?_
    refine w_val rfl rfl (op_pure rfl) ?_
    refine w_split (i := 30) rfl (fun h30 => ?_) (fun h30 => ?_)
    · simp only [decide_eq_true_eq] at h30
      refine w_off rfl rfl ?_
      refine w_off rfl rfl ?_
      refine w_off rfl rfl ?_
      refine w_off rfl rfl ?_
      refine w_val rfl rfl (op_pure rfl) ?_
      refine w_val rfl rfl (op_pure rfl) ?_
      refine w_nil ?_
      refine then_n ?_
      repeat refine wc_seq ?_
      refine wc_cond_t rfl ?_
      repeat refine wc_seq ?_
      refine wc_region ?_
      refine w_val rfl rfl (op_pure rfl) ?_
      refine w_nil ?_
      refine then_n ?_
      refine wc_ret ?_
      repeat first | refine then_r ?_ | refine out_r ?_ | refine round_r ?_ | refine cut_r ?_ | refine sc_r ?_
      refine ⟨_, rfl, hK, congrArg (AV.int .i64) ?_⟩
      rw [instr_room]
      unfold instr2E
      (repeat' split) <;> omega
    simp only [decide_eq_false_iff_not] at h30
    refine w_val rfl rfl (op_fld rfl rfl rfl rfl (by decide) (by assumption) (Nat.le_of_ble_eq_true rfl)) ?_
    refine w_val rfl rfl (op_load rfl rfl (Pt.fld (by assumption) _ (Nat.le_of_ble_eq_true rfl)) rfl) ?_
    refine w_val rfl rfl (op_pure rfl) ?_
    refine w_val rfl rfl (op_pure rfl) ?_
    refine w_val rfl rfl (op_pure rfl) ?_
    refine w_val rfl rfl (op_pure rfl) ?_
    refine w_nil ?_
    refine then_n ?_
    repeat refine wc_seq ?_
    refine wc_condT rfl (fun h36 => ?_) (fun h36 => ?_)
    · simp only [decide_eq_true_eq, ge_iff_le] at h36
      repeat refine wc_seq ?_
      refine wc_region ?_
      refine w_val rfl rfl (op_pure rfl) ?_
      refine w_nil ?_
      refine then_n ?_
      refine wc_ret ?_
      repeat first | refine then_r ?_ | refine out_r ?_ | refine round_r ?_ | refine cut_r ?_ | refine sc_r ?_
      refine ⟨_, rfl, hK, congrArg (AV.int .i64) ?_⟩
      rw [instr_room]
      unfold instr2E
      (repeat' split) <;> omega
    simp only [decide_eq_false_iff_not, ge_iff_le] at h36
    refine wc_skip ?_
    refine then_n ?_
    repeat refine wc_seq ?_
    refine wc_region ?_
    refine w_val rfl rfl (op_pure rfl) ?_
    refine w_nil ?_
    refine then_n ?_
    refine wc_ret ?_
    repeat first | refine then_r ?_ | refine out_r ?_ | refine round_r ?_ | refine cut_r ?_ | refine sc_r ?_
    refine ⟨_, rfl, hK, congrArg (AV.int .i64) ?_⟩
    rw [instr_room]
    unfold instr2E
    (repeat' split) <;> omega
  simp only [decide_eq_false_iff_not, ge_iff_le] at h26
  refine w_off rfl rfl ?_
  refine w_off rfl rfl ?_
  refine w_off rfl rfl ?_
  refine w_off rfl rfl ?_
  refine w_off rfl rfl ?_
  refine w_off rfl rfl ?_
  refine w_off rfl rfl ?_
  refine w_off rfl rfl ?_
  refine w_off rfl rfl ?_
  refine w_val rfl rfl (op_pure rfl) ?_
  refine w_nil ?_
  refine then_n ?_
  repeat refine wc_seq ?_
  refine wc_cond_f rfl ?_
  refine wc_skip ?_
  refine then_n ?_
  repeat refine wc_seq ?_
  refine wc_region ?_
  refine w_val rfl rfl (op_pure rfl) ?_
  refine w_nil ?_
  refine then_n ?_
  refine wc_ret ?_
  repeat first | refine then_r ?_ | refine out_r ?_ | refine round_r ?_ | refine cut_r ?_ | refine sc_r ?_
  refine ⟨_, rfl, hK, congrArg (AV.int .i64) ?_⟩
  rw [instr_room]
  unfold instr2E
  (repeat' split) <;> omega
set_option maxRecDepth 10000 in
set_option maxHeartbeats 4000000 in
theorem head_ok {s : St} {c : List AV} {x : FuncL} (hok : s.Ok) (hx : x.small) (hv : FuncR s.h x c) :
    CallS Try.prog Tt Kt 107 [.agg c] s (fun v s' => Keep [] s s' ∧ v = .int .i64 (headE x)) := by
  have hz := hv.leaf.2
  obtain ⟨vp, vr, vc, rfl, hvp, hvr, hvc⟩ := hv
  obtain ⟨hx1, hx2, hx3⟩ := hx
  refine call_of (fn := Try.f107) (nt := 44) Try.func107 rfl rfl rfl ?_
  repeat refine wc_seq ?_
  refine wc_region ?_
  refine w_box rfl rfl rfl hz hok ?_
  intro s1 hp1 hk1 hc1
  have hK := (Keep.refl hok).two hk1
  have hpm1 : Pt s1.h (.ptr s.ctr 0 0) [.int .u64 x.level, vp, vr, .int .i64 x.locals, .int .i64 x.stack, vc] := hp1
  clear hp1
  refine w_val rfl rfl (op_pure rfl) ?_
  refine w_nil ?_
  refine then_n ?_
  repeat refine wc_seq ?_
  refine wc_block ?_
  repeat refine wc_seq ?_
  refine wc_region ?_
  refine w_val rfl rfl (op_fld rfl rfl rfl rfl (by decide) (by assumption) (Nat.le_of_ble_eq_true rfl)) ?_
  refine w_val rfl rfl (op_load rfl rfl (Pt.fld (by assumption) _ (Nat.le_of_ble_eq_true rfl)) rfl) ?_
  refine w_val rfl rfl (op_len rfl rfl rfl rfl rfl (Row.slenF (by assumption))) ?_
  refine w_val rfl rfl (op_pure rfl) ?_
  refine w_val rfl rfl (op_pure rfl) ?_
  refine w_split (i := 8) rfl (fun h8 => ?_) (fun h8 => ?_)
  · simp only [decide_eq_true_eq, gt_iff_lt] at h8
    refine w_off rfl rfl ?_
    refine w_off rfl rfl ?_
    refine w_off rfl rfl ?_
    refine w_off rfl rfl ?_
    refine w_val rfl rfl (op_pure rfl) ?_
    refine w_val rfl rfl (op_pure rfl) ?_
    refine w_off rfl rfl ?_
    refine w_off rfl rfl ?_
    refine w_off rfl rfl ?_
    refine w_off rfl rfl ?_
    refine w_val rfl rfl (op_pure rfl) ?_
    refine w_val rfl rfl (op_pure rfl) ?_
    refine w_off rfl rfl ?_
    refine w_off rfl rfl ?_
    refine w_off rfl rfl ?_
    refine w_val rfl rfl (op_pure rfl) ?_
    refine w_val rfl rfl (op_pure rfl) ?_
    refine w_off rfl rfl ?_
    refine w_off rfl rfl ?_
    refine w_off rfl rfl ?_
    refine w_val rfl rfl (op_pure rfl) ?_
    refine w_val rfl rfl (op_pure rfl) ?_
    refine w_nil ?_
    refine then_n ?_
    refine wc_cond_t rfl ?_
    repeat refine wc_seq ?_
    refine wc_region ?_
    refine w_val rfl rfl (op_pure rfl) ?_
    refine w_nil ?_
    refine then_n ?_
    refine wc_ret ?_
    repeat first | refine then_r ?_ | refine out_r ?_ | refine round_r ?_ | refine cut_r ?_ | refine sc_r ?_
    refine ⟨_, rfl, hK, congrArg (AV.int .i64) ?_⟩
    unfold headE
    (repeat' split) <;> omega
  simp only [decide_eq_false_iff_not, gt_iff_lt] at h8
  refine w_val rfl rfl (op_fld rfl rfl rfl rfl (by decide) (by assumption) (Nat.le_of_ble_eq_true rfl)) ?_
  refine w_val rfl rfl (op_load rfl rfl (Pt.fld (by assumption) _ (Nat.le_of_ble_eq_true rfl)) rfl) ?_
  refine w_val rfl rfl (op_len rfl rfl rfl rfl rfl (Row.slenF (by assumption))) ?_
  refine w_val rfl rfl (op_pure rfl) ?_
  refine w_val rfl rfl (op_pure rfl) ?_
  refine w_val rfl rfl (op_pure rfl) ?_
  refine w_split (i := 14) rfl (fun h14 => ?_) (fun h14 => ?_)
  · simp only [decide_eq_true_eq, gt_iff_lt] at h14
    refine w_off rfl rfl ?_
    refine w_off rfl rfl ?_
    refine w_off rfl rfl ?_
    refine w_off rfl rfl ?_
    refine w_val rfl rfl (op_pure rfl) ?_
    refine w_val rfl rfl (op_pure rfl) ?_
    refine w_off rfl rfl ?_
    refine w_off rfl rfl ?_
    refine w_off rfl rfl ?_
    refine w_val rfl rfl (op_pure rfl) ?_
    refine w_val rfl rfl (op_pure rfl) ?_
    refine w_off rfl rfl ?_
    refine w_off rfl rfl ?_
    refine w_off rfl rfl ?_
    refine w_val rfl rfl (op_pure rfl) ?_
    refine w_val rfl rfl (op_pure rfl) ?_
    refine w_nil ?_
    refine then_n ?_
    refine wc_cond_t rfl ?_
    repeat refine wc_seq ?_
    refine wc_region ?_
    refine w_val rfl rfl (op_pure rfl) ?_
    refine w_nil ?_
    refine then_n ?_
    refine wc_ret ?_
    repeat first | refine then_r ?_ | refine out_r ?_ | refine round_r ?_ | refine cut_r ?_ | refine sc_r ?_
    refine ⟨_, rfl, hK, congrArg (AV.int .i64) ?_⟩
    unfold headE
    (repeat' split) <;> omega
  simp only [decide_eq_false_iff_not, gt_iff_lt] at h14
  refine w_val rfl rfl (op_fld rfl rfl rfl rfl (by decide) (by assumption) (Nat.le_of_ble_eq_true rfl)) ?_
  refine w_val rfl rfl (op_load rfl rfl (Pt.fld (by assumption) _ (Nat.le_of_ble_eq_true rfl)) rfl) ?_
  refine w_val rfl rfl (op_len rfl rfl rfl rfl rfl (Row.slenF (by assumption))) ?_
  refine w_val rfl rfl (op_pure rfl) ?_
  refine w_val rfl rfl (op_pure rfl) ?_
  refine w_val rfl rfl (op_pure rfl) ?_
  refine w_split (i := 20) rfl (fun h20 => ?_) (fun h20 => ?_)
  · simp only [decide_eq_true_eq, gt_iff_lt] at h20
    refine w_off rfl rfl ?_
    refine w_off rfl rfl ?_
    refine w_off rfl rfl ?_
    refine w_val rfl rfl (op_pure rfl) ?_
    refine w_val rfl rfl (op_pure rfl) ?_
    refine w_off rfl rfl ?_
    refine w_off rfl rfl ?_
    refine w_off rfl rfl ?_
    refine w_val rfl rfl (op_pure rfl) ?_
    refine w_val rfl rfl (op_pure rfl) ?_
    refine w_nil ?_
    refine then_n ?_
    refine wc_cond_t rfl ?_
    repeat refine wc_seq ?_
    refine wc_region ?_
    refine w_val rfl rfl (op_pure rfl) ?_
    refine w_nil ?_
    refine then_n ?_
    refine wc_ret ?_
    repeat first | refine then_r ?_ | refine out_r ?_ | refine round_r ?_ | refine cut_r ?_ | refine sc_r ?_
    refine ⟨_, rfl, hK, congrArg (AV.int .i64) ?_⟩
    unfold headE
    (repeat' split) <;> omega
  simp only [decide_eq_false_iff_not, gt_iff_lt] at h20
  refine w_val rfl rfl (op_fld rfl rfl rfl rfl (by decide) (by assumption) (Nat.le_of_ble_eq_true rfl)) ?_
  refine w_val rfl rfl (op_load rfl rfl (Pt.fld (by assumption) _ (Nat.le_of_ble_eq_true rfl)) rfl) ?_
  refine w_val rfl rfl (op_pure rfl) ?_
  refine w_val rfl rfl (op_pure rfl) ?_
  refine w_val rfl rfl (op_pure rfl) ?_
  refine w_split (i := 25) rfl (fun h25 => ?_) (fun h25 => ?_)
  · simp only [decide_eq_true_eq, gt_iff_lt] at h25
    refine w_off rfl rfl ?_
    refine w_off rfl rfl ?_
    refine w_off rfl rfl ?_
    refine w_val rfl rfl (op_pure rfl) ?_
    refine w_val rfl rfl (op_pure rfl) ?_
    refine w_nil ?_
    refine then_n ?_
    refine wc_cond_t rfl ?_
    repeat refine wc_seq ?_
    refine wc_region ?_
    refine w_val rfl rfl (op_pure rfl) ?_
    refine w_nil ?_
    refine then_n ?_
    refine wc_ret ?_
    repeat first | refine then_r ?_ | refine out_r ?_ | refine round_r ?_ | refine cut_r ?_ | refine sc_r ?_
    refine ⟨_, rfl, hK, congrArg (AV.int .i64) ?_⟩
    unfold headE
    (repeat' split) <;> omega
  simp only [decide_eq_false_iff_not, gt_iff_lt] at h25
  refine w_val rfl rfl (op_fld rfl rfl rfl rfl (by decide) (by assumption) (Nat.le_of_ble_eq_true rfl)) ?_
  refine w_val rfl rfl (op_load rfl rfl (Pt.fld (by assumption) _ (Nat.le_of_ble_eq_true rfl)) rfl) ?_
  refine w_val rfl rfl (op_pure rfl) ?_
  refine w_val rfl rfl (op_pure rfl) ?_
  refine w_val rfl rfl (op_pure rfl) ?_
  refine w_nil ?_
  refine then_n ?_
  refine wc_condT rfl (fun h3 => ?_) (fun h3 => ?_)
  · simp only [decide_eq_true_eq, gt_iff_lt] at h3
    repeat refine wc_seq ?_
    refine wc_region ?_
    refine w_val rfl rfl (op_pure rfl) ?_
    refine w_nil ?_
    refine then_n ?_
    refine wc_ret ?_
    repeat first | refine then_r ?_ | refine out_r ?_ | refine round_r ?_ | refine cut_r ?_ | refine sc_r ?_
    refine ⟨_, rfl, hK, congrArg (AV.int .i64) ?_⟩
    unfold headE
    (repeat' split) <;> omega
  simp only [decide_eq_false_iff_not, gt_iff_lt] at h3
  repeat refine wc_seq ?_
  refine wc_region ?_
  refine w_val rfl rfl (op_fld rfl rfl rfl rfl (by decide) (by assumption) (Nat.le_of_ble_eq_true rfl)) ?_
  refine w_val rfl rfl (op_load rfl rfl (Pt.fld (by assumption) _ (Nat.le_of_ble_eq_true rfl)) rfl) ?_
  refine w_val rfl rfl (op_pure rfl) ?_
  refine w_val rfl rfl (op_pure rfl) ?_
  refine w_split (i := 34) rfl (fun h34 => ?_) (fun h34 => ?_)
  · simp only [decide_eq_true_eq] at h34
    refine w_off rfl rfl ?_
    refine w_off rfl rfl ?_
    refine w_off rfl rfl ?_
    refine w_val rfl rfl (op_pure rfl) ?_
    refine w_val rfl rfl (op_pure rfl) ?_
    refine w_nil ?_
    refine then_n ?_
    refine wc_cond_t rfl ?_
    repeat refine wc_seq ?_
    refine wc_region ?_
    refine w_val rfl rfl (op_pure rfl) ?_
    refine w_nil ?_
    refine then_n ?_
    refine wc_ret ?_
    repeat first | refine then_r ?_ | refine out_r ?_ | refine round_r ?_ | refine cut_r ?_ | refine sc_r ?_
    refine ⟨_, rfl, hK, congrArg (AV.int .i64) ?_⟩
    unfold headE
    (repeat' split) <;> omega
  simp only [decide_eq_false_iff_not] at h34
  refine w_val rfl rfl (op_fld rfl rfl rfl rfl (by decide) (by assumption) (Nat.le_of_ble_eq_true rfl)) ?_
  refine w_val rfl rfl (op_load rfl rfl (Pt.fld (by assumption) _ (Nat.le_of_ble_eq_true rfl)) rfl) ?_
  refine w_val rfl rfl (op_pure rfl) ?_
  refine w_val rfl rfl (op_pure rfl) ?_
  refine w_val rfl rfl (op_pure rfl) ?_
  refine w_nil ?_
  refine then_n ?_
  refine wc_condT rfl (fun h30 => ?_) (fun h30 => ?_)
  · simp only [decide_eq_true_eq] at h30
    repeat refine wc_seq ?_
    refine wc_region ?_
    refine w_val rfl rfl (op_pure rfl) ?_
    refine w_nil ?_
    refine then_n ?_
    refine wc_ret ?_
    repeat first | refine then_r ?_ | refine out_r ?_ | refine round_r ?_ | refine cut_r ?_ | refine sc_r ?_
    refine ⟨_, rfl, hK, congrArg (AV.int .i64) ?_⟩
    unfold headE
    (repeat' split) <;> omega
  simp only [decide_eq_false_iff_not] at h30
  repeat refine wc_seq ?_
  refine wc_region ?_
  refine w_val rfl rfl (op_fld rfl rfl rfl rfl (by decide) (by assumption) (Nat.le_of_ble_eq_true rfl)) ?_
  refine w_val rfl rfl (op_load rfl rfl (Pt.fld (by assumption) _ (Nat.le_of_ble_eq_true rfl)) rfl) ?_
  refine w_val rfl rfl (op_len rfl rfl rfl rfl rfl (Row.slenF (by assumption))) ?_
  refine w_val rfl rfl (op_pure rfl) ?_
  refine w_val rfl rfl (op_pure rfl) ?_
  refine w_nil ?_
  refine then_n ?_
  refine wc_condT rfl (fun h39 => ?_) (fun h39 => ?_)
  · simp only [beq_iff_eq] at h39
    repeat refine wc_seq ?_
    refine wc_region ?_
    refine w_val rfl rfl (op_pure rfl) ?_
    refine w_nil ?_
    refine then_n ?_
    refine wc_ret ?_
    repeat first | refine then_r ?_ | refine out_r ?_ | refine round_r ?_ | refine cut_r ?_ | refine sc_r ?_
    refine ⟨_, rfl, hK, congrArg (AV.int .i64) ?_⟩
    unfold headE
    (repeat' split) <;> omega
  simp only [beq_eq_false_iff_ne, ne_eq] at h39
  refine wc_skip ?_
  refine out_n ?_
  refine then_n ?_
  repeat refine wc_seq ?_
  refine wc_region ?_
  refine w_val rfl rfl (op_pure rfl) ?_
  refine w_nil ?_
  refine then_n ?_
  refine wc_ret ?_
  repeat first | refine then_r ?_ | refine out_r ?_ | refine round_r ?_ | refine cut_r ?_ | refine sc_r ?_
  refine ⟨_, rfl, hK, congrArg (AV.int .i64) ?_⟩
  unfold headE
  (repeat' split) <;> omega
end Go.Ab
/- Shape: whole modules. -/
namespace Go.Ab
open Go.Proofs
abbrev Fault := Int × Int × Int
def faultC (r : Fault) : List AV := [.int .i64 r.1, .int .i64 r.2.1, .int .i64 r.2.2]
def arrP (mm : ModL) (i : Nat) : Option Fault := match mm.arrays[i]? with
  | some a => if a.len < 1 ∨ 256 < a.len then some (130, -1, (i : Nat)) else none
  | none => none
def insE (mm : ModL) (x : FuncL) (a : Nat) (y : InstrL) : Int := if instrE mm x y = 0 ∧ a + 1 = x.code.length ∧ ¬ y.op = 43 ∧ ¬ y.op = 46 then 131 else instrE mm x y
def insP (mm : ModL) (x : FuncL) (f a : Nat) : Option Fault := match x.code[a]? with
  | some y => if insE mm x a y = 0 then none else some (insE mm x a y, (f : Nat), (a : Nat))
  | none => none
def funP (mm : ModL) (f : Nat) : Option Fault := match mm.funcs[f]? with
  | some x => if headE x = 0 then fo (insP mm x f) x.code.length else some (headE x, (f : Nat), -1)
  | none => none
def checkF (mm : ModL) : Fault :=
  if 32 < mm.globals.length ∨ 16 < mm.arrays.length ∨ 16 < mm.channels.length ∨ 32 < mm.funcs.length then (74, -1, 0)
  else match fo (arrP mm) mm.arrays.length with
    | some r => r
    | none => match fo (funP mm) mm.funcs.length with
      | some r => r
      | none => (0, 0, 0)
section
variable {mm : ModL} {x : FuncL} {y : InstrL} {a f i : Nat} {r : Fault}
theorem chk_many (h : 32 < mm.globals.length ∨ 16 < mm.arrays.length ∨ 16 < mm.channels.length ∨ 32 < mm.funcs.length) : checkF mm = (74, -1, 0) := if_pos h
theorem chk_arr (h : ¬ (32 < mm.globals.length ∨ 16 < mm.arrays.length ∨ 16 < mm.channels.length ∨ 32 < mm.funcs.length)) (h1 : fo (arrP mm) mm.arrays.length = some r) : checkF mm = r := by
  unfold checkF; rw [if_neg h, h1]
theorem chk_fun (h : ¬ (32 < mm.globals.length ∨ 16 < mm.arrays.length ∨ 16 < mm.channels.length ∨ 32 < mm.funcs.length)) (h1 : fo (arrP mm) mm.arrays.length = none) (h2 : fo (funP mm) mm.funcs.length = some r) : checkF mm = r := by
  unfold checkF; rw [if_neg h, h1, h2]
theorem chk_ok (h : ¬ (32 < mm.globals.length ∨ 16 < mm.arrays.length ∨ 16 < mm.channels.length ∨ 32 < mm.funcs.length)) (h1 : fo (arrP mm) mm.arrays.length = none) (h2 : fo (funP mm) mm.funcs.length = none) : checkF mm = (0, 0, 0) := by
  unfold checkF; rw [if_neg h, h1, h2]
theorem arrP_bad {b : ArrL} (h : mm.arrays[i]? = some b) (hb : b.len < 1 ∨ 256 < b.len) : arrP mm i = some (130, -1, ((i : Nat) : Int)) := by unfold arrP; rw [h]; exact if_pos hb
theorem arrP_ok {b : ArrL} (h : mm.arrays[i]? = some b) (hb : ¬ (b.len < 1 ∨ 256 < b.len)) : arrP mm i = none := by unfold arrP; rw [h]; exact if_neg hb
theorem funP_head (h : mm.funcs[f]? = some x) (hh : ¬ headE x = 0) : funP mm f = some (headE x, ((f : Nat) : Int), -1) := by unfold funP; rw [h]; exact if_neg hh
theorem funP_ins (h : mm.funcs[f]? = some x) (hh : headE x = 0) (hi : fo (insP mm x f) x.code.length = some r) : funP mm f = some r := by unfold funP; rw [h]; exact (if_pos hh).trans hi
theorem funP_none (h : mm.funcs[f]? = some x) (hh : headE x = 0) (hi : fo (insP mm x f) x.code.length = none) : funP mm f = none := by unfold funP; rw [h]; exact (if_pos hh).trans hi
theorem insP_some {e : Int} (h : x.code[a]? = some y) (he : insE mm x a y = e) (hn : ¬ e = 0) : insP mm x f a = some (e, ((f : Nat) : Int), ((a : Nat) : Int)) := by unfold insP; rw [h]; simp only; rw [he, if_neg hn]
theorem insP_none (h : x.code[a]? = some y) (he : insE mm x a y = 0) : insP mm x f a = none := by unfold insP; rw [h]; simp only; rw [he, if_pos rfl]
theorem insE_fall (h : instrE mm x y = 0) (h1 : a + 1 = x.code.length) (h2 : ¬ y.op = 43) (h3 : ¬ y.op = 46) : insE mm x a y = 131 := if_pos ⟨h, h1, h2, h3⟩
theorem insE_own (h : ¬ instrE mm x y = 0) : insE mm x a y = instrE mm x y := if_neg fun k => h k.1
theorem insE_none (h : instrE mm x y = 0) (h1 : ¬ (a + 1 = x.code.length ∧ ¬ y.op = 43 ∧ ¬ y.op = 46)) : insE mm x a y = 0 := (if_neg fun k => h1 k.2).trans h
end
set_option maxRecDepth 10000 in
set_option maxHeartbeats 4000000 in
theorem check_ok {s : St} {c : List AV} {mm : ModL} (hok : s.Ok) (hm : mm.small) (hv : ModR s.h mm c) :
    CallS Try.prog Tt Kt 90 [.agg c] s (fun r s' => Keep [] s s' ∧ r = .agg (faultC (checkF mm))) := by
  have hz := hv.leaf.2
  obtain ⟨vg, va, vh, vf, rfl, hvg, hva, hvh, csf, hrf, hlf, hF⟩ := hv
  obtain ⟨hl1, hl3, hl2, hl4, -⟩ := id hm
  refine call_of (fn := Try.f90) (nt := 109) Try.func90 rfl rfl rfl ?_
  repeat refine wc_seq ?_
  refine wc_region ?_
  refine w_box rfl rfl rfl hz hok ?_
  intro s1 hp1 hk1 hc1
  have hK := (Keep.refl hok).two hk1
  have hp : Pt s1.h (.ptr s.ctr 0 0) [vg, va, vh, vf] := hp1
  refine w_alloc rfl rfl rfl rfl hK.ok ?_
  intro s2 hq hk2 hc2
  have hK := hK.two hk2
  have hp := hp.keep0 hk2
  have hq : Pt s2.h (.ptr s1.ctr 0 0) [.int .i64 0, .int .i64 0, .int .i64 0] := hq
  have hsv : va.slen = some mm.arrays.length := hva.slenF
  have hsf : vf.slen = some mm.funcs.length := hrf.slen.trans (congrArg some hlf)
  refine w_nil ?_
  refine then_n ?_
  refine wc_scope ?_
  repeat refine wc_seq ?_
  refine wc_region ?_
  refine w_val rfl rfl (op_fld rfl rfl rfl rfl (by decide) (by assumption) (Nat.le_of_ble_eq_true rfl)) ?_
  refine w_val rfl rfl (op_load rfl rfl (by assumption) rfl) ?_
  refine w_val rfl rfl (op_len rfl rfl rfl rfl rfl (Row.slenF (by assumption))) ?_
  refine w_val rfl rfl (op_pure rfl) ?_
  refine w_val rfl rfl (op_pure rfl) ?_
  refine w_split (i := 15) rfl (fun h15 => ?_) (fun h15 => ?_)
  · simp only [decide_eq_true_eq, gt_iff_lt] at h15
    refine w_off rfl rfl ?_
    refine w_off rfl rfl ?_
    refine w_off rfl rfl ?_
    refine w_off rfl rfl ?_
    refine w_val rfl rfl (op_pure rfl) ?_
    refine w_val rfl rfl (op_pure rfl) ?_
    refine w_off rfl rfl ?_
    refine w_off rfl rfl ?_
    refine w_off rfl rfl ?_
    refine w_off rfl rfl ?_
    refine w_val rfl rfl (op_pure rfl) ?_
    refine w_val rfl rfl (op_pure rfl) ?_
    refine w_off rfl rfl ?_
    refine w_off rfl rfl ?_
    refine w_off rfl rfl ?_
    refine w_off rfl rfl ?_
    refine w_val rfl rfl (op_pure rfl) ?_
    refine w_nil ?_
    refine then_n ?_
    repeat refine wc_seq ?_
    refine wc_cond_t rfl ?_
    repeat refine wc_seq ?_
    refine wc_region ?_
    refine w_val rfl rfl (op_pure rfl) ?_
    refine w_store_all (old := [.int .i64 0, .int .i64 0, .int .i64 0]) rfl rfl rfl rfl rfl (by rfl) rfl hK.ok hq (by simp [AV.gs]) ?_
    intro sq hq' hkq hcq
    have hq : Pt sq.h (.ptr s1.ctr 0 0) [.int .i64 74, .int .i64 (-1), .int .i64 0] := hq'
    have hK := hK.fresh hkq (fun g hg => by rw [List.mem_singleton.1 hg]; have := hk1.ctr; omega)
    refine w_nil ?_
    refine then_n ?_
    refine wc_ret ?_
    repeat first | refine then_r ?_ | refine out_r ?_ | refine round_r ?_ | refine cut_r ?_ | refine sc_r ?_
    exact ⟨_, res_cell rfl rfl hq rfl, hK, congrArg (fun r => AV.agg (faultC r)) (chk_many (by omega)).symm⟩
  simp only [decide_eq_false_iff_not, gt_iff_lt] at h15
  refine w_val rfl rfl (op_fld rfl rfl rfl rfl (by decide) (by assumption) (Nat.le_of_ble_eq_true rfl)) ?_
  refine w_val rfl rfl (op_load rfl rfl (Pt.fld (by assumption) _ (Nat.le_of_ble_eq_true rfl)) rfl) ?_
  refine w_val rfl rfl (op_len rfl rfl rfl rfl rfl (by assumption)) ?_
  refine w_val rfl rfl (op_pure rfl) ?_
  refine w_val rfl rfl (op_pure rfl) ?_
  refine w_val rfl rfl (op_pure rfl) ?_
  refine w_split (i := 21) rfl (fun h21 => ?_) (fun h21 => ?_)
  · simp only [decide_eq_true_eq, gt_iff_lt] at h21
    refine w_off rfl rfl ?_
    refine w_off rfl rfl ?_
    refine w_off rfl rfl ?_
    refine w_off rfl rfl ?_
    refine w_val rfl rfl (op_pure rfl) ?_
    refine w_val rfl rfl (op_pure rfl) ?_
    refine w_off rfl rfl ?_
    refine w_off rfl rfl ?_
    refine w_off rfl rfl ?_
    refine w_off rfl rfl ?_
    refine w_val rfl rfl (op_pure rfl) ?_
    refine w_nil ?_
    refine then_n ?_
    repeat refine wc_seq ?_
    refine wc_cond_t rfl ?_
    repeat refine wc_seq ?_
    refine wc_region ?_
    refine w_val rfl rfl (op_pure rfl) ?_
    refine w_store_all (old := [.int .i64 0, .int .i64 0, .int .i64 0]) rfl rfl rfl rfl rfl (by rfl) rfl hK.ok hq (by simp [AV.gs]) ?_
    intro sq hq' hkq hcq
    have hq : Pt sq.h (.ptr s1.ctr 0 0) [.int .i64 74, .int .i64 (-1), .int .i64 0] := hq'
    have hK := hK.fresh hkq (fun g hg => by rw [List.mem_singleton.1 hg]; have := hk1.ctr; omega)
    refine w_nil ?_
    refine then_n ?_
    refine wc_ret ?_
    repeat first | refine then_r ?_ | refine out_r ?_ | refine round_r ?_ | refine cut_r ?_ | refine sc_r ?_
    exact ⟨_, res_cell rfl rfl hq rfl, hK, congrArg (fun r => AV.agg (faultC r)) (chk_many (by omega)).symm⟩
  simp only [decide_eq_false_iff_not, gt_iff_lt] at h21
  refine w_val rfl rfl (op_fld rfl rfl rfl rfl (by decide) (by assumption) (Nat.le_of_ble_eq_true rfl)) ?_
  refine w_val rfl rfl (op_load rfl rfl (Pt.fld (by assumption) _ (Nat.le_of_ble_eq_true rfl)) rfl) ?_
  refine w_val rfl rfl (op_len rfl rfl rfl rfl rfl (Row.slenF (by assumption))) ?_
  refine w_val rfl rfl (op_pure rfl) ?_
  refine w_val rfl rfl (op_pure rfl) ?_
  refine w_val rfl rfl (op_pure rfl) ?_
  refine w_split (i := 27) rfl (fun h27 => ?_) (fun h27 => ?_)
  · simp only [decide_eq_true_eq, gt_iff_lt] at h27
    refine w_off rfl rfl ?_
    refine w_off rfl rfl ?_
    refine w_off rfl rfl ?_
    refine w_off rfl rfl ?_
    refine w_val rfl rfl (op_pure rfl) ?_
    refine w_nil ?_
    refine then_n ?_
    repeat refine wc_seq ?_
    refine wc_cond_t rfl ?_
    repeat refine wc_seq ?_
    refine wc_region ?_
    refine w_val rfl rfl (op_pure rfl) ?_
    refine w_store_all (old := [.int .i64 0, .int .i64 0, .int .i64 0]) rfl rfl rfl rfl rfl (by rfl) rfl hK.ok hq (by simp [AV.gs]) ?_
    intro sq hq' hkq hcq
    have hq : Pt sq.h (.ptr s1.ctr 0 0) [.int .i64 74, .int .i64 (-1), .int .i64 0] := hq'
    have hK := hK.fresh hkq (fun g hg => by rw [List.mem_singleton.1 hg]; have := hk1.ctr; omega)
    refine w_nil ?_
    refine then_n ?_
    refine wc_ret ?_
    repeat first | refine then_r ?_ | refine out_r ?_ | refine round_r ?_ | refine cut_r ?_ | refine sc_r ?_
    exact ⟨_, res_cell rfl rfl hq rfl, hK, congrArg (fun r => AV.agg (faultC r)) (chk_many (by omega)).symm⟩
  simp only [decide_eq_false_iff_not, gt_iff_lt] at h27
  refine w_val rfl rfl (op_fld rfl rfl rfl rfl (by decide) (by assumption) (Nat.le_of_ble_eq_true rfl)) ?_
  refine w_val rfl rfl (op_load rfl rfl (Pt.fld (by assumption) _ (Nat.le_of_ble_eq_true rfl)) rfl) ?_
  refine w_val rfl rfl (op_len rfl rfl rfl rfl rfl (by assumption)) ?_
  refine w_val rfl rfl (op_pure rfl) ?_
  refine w_val rfl rfl (op_pure rfl) ?_
  refine w_nil ?_
  refine then_n ?_
  repeat refine wc_seq ?_
  refine wc_condT rfl (fun h32 => ?_) (fun h32 => ?_)
  · simp only [decide_eq_true_eq, gt_iff_lt] at h32
    repeat refine wc_seq ?_
    refine wc_region ?_
    refine w_val rfl rfl (op_pure rfl) ?_
    refine w_store_all (old := [.int .i64 0, .int .i64 0, .int .i64 0]) rfl rfl rfl rfl rfl (by rfl) rfl hK.ok hq (by simp [AV.gs]) ?_
    intro sq hq' hkq hcq
    have hq : Pt sq.h (.ptr s1.ctr 0 0) [.int .i64 74, .int .i64 (-1), .int .i64 0] := hq'
    have hK := hK.fresh hkq (fun g hg => by rw [List.mem_singleton.1 hg]; have := hk1.ctr; omega)
    refine w_nil ?_
    refine then_n ?_
    refine wc_ret ?_
    repeat first | refine then_r ?_ | refine out_r ?_ | refine round_r ?_ | refine cut_r ?_ | refine sc_r ?_
    exact ⟨_, res_cell rfl rfl hq rfl, hK, congrArg (fun r => AV.agg (faultC r)) (chk_many (by omega)).symm⟩
  simp only [decide_eq_false_iff_not, gt_iff_lt] at h32
  refine wc_skip ?_
  refine then_n ?_
  repeat refine wc_seq ?_
  have hmany : ¬ (32 < mm.globals.length ∨ 16 < mm.arrays.length ∨ 16 < mm.channels.length ∨ 32 < mm.funcs.length) := by omega
  refine wc_region ?_
  refine w_val rfl rfl (op_fld rfl rfl rfl rfl (by decide) (by assumption) (Nat.le_of_ble_eq_true rfl)) ?_
  refine w_val rfl rfl (op_load rfl rfl (Pt.fld (by assumption) _ (Nat.le_of_ble_eq_true rfl)) rfl) ?_
  refine w_val rfl rfl (op_len rfl rfl rfl rfl rfl (by assumption)) ?_
  refine w_val rfl rfl (op_pure rfl) ?_
  refine w_nil ?_
  refine then_n ?_
  repeat refine wc_seq ?_
  refine wc_block ?_
  refine wc_loop_at (fun j m sI => ∃ (i : Nat), j = mm.arrays.length - i ∧ i ≤ mm.arrays.length ∧ m = [(1, .ptr s.ctr 0 0), (2, .ptr s1.ctr 0 0), (35, va), (36, .int .i64 (mm.arrays.length : Nat)), (37, .int .i64 (i : Nat))] ∧ Keep [] s sI ∧ s2.ctr ≤ sI.ctr ∧ Pt sI.h (.ptr s.ctr 0 0) [vg, va, vh, vf] ∧ Pt sI.h (.ptr s1.ctr 0 0) [.int .i64 0, .int .i64 0, .int .i64 0] ∧ fo (arrP mm) i = none) mm.arrays.length
    [(1, .ptr s.ctr 0 0), (2, .ptr s1.ctr 0 0), (35, va), (36, .int .i64 (mm.arrays.length : Nat)), (37, .int .i64 ((0 : Nat) : Int))] (Sub.cons rfl (Sub.cons rfl (Sub.cons rfl (Sub.cons rfl (Sub.cons rfl (Sub.nil _)))))) ⟨0, by simp, by simp, rfl, hK, Nat.le_refl _, hp, hq, rfl⟩ ?_
  clear hK hp hq
  rintro j m s3 ⟨i, rfl, hi, rfl, hK, hcI, hp, hq, hfo⟩
  repeat refine wc_seq ?_
  refine wc_region ?_
  refine w_val rfl rfl (op_pure rfl) ?_
  refine w_nil ?_
  refine then_n ?_
  repeat refine wc_seq ?_
  refine wc_condT rfl (fun h38 => ?_) (fun h38 => ?_)
  · simp only [decide_eq_true_eq] at h38
    refine wc_skip ?_
    refine then_n ?_
    repeat refine wc_seq ?_
    refine wc_block ?_
    repeat refine wc_seq ?_
    obtain ⟨a, ha⟩ : ∃ x, mm.arrays[i]? = some x := ⟨_, List.getElem?_eq_getElem (by omega)⟩
    have hi' : i < mm.arrays.length := by omega
    refine wc_region ?_
    refine w_val rfl rfl (op_pure rfl) ?_
    refine w_val rfl rfl (op_idxF rfl rfl (natA_cast _ _) rfl rfl rfl rfl (Row.keep0 (by assumption) hK) (by omega)) ?_
    refine w_val rfl rfl (op_load rfl rfl (Pt.keep0 (Row.mk_pt (by assumption) (by assumption)) hK) rfl) ?_
    refine w_alloc rfl rfl rfl rfl hK.ok ?_
    intro s4 hv4 hk4 hc4
    have hK := hK.two hk4
    have hp := hp.keep0 hk4
    have hq := hq.keep0 hk4
    refine w_val rfl rfl (op_pure rfl) ?_
    refine w_store_all rfl rfl rfl rfl rfl (by rfl) rfl hK.ok hv4 (by simp [AV.gs]) ?_
    intro s5 hv5 hk5 hc5
    have hw : Pt s5.h (.ptr s3.ctr 0 0) [.int .i64 a.len, .int .u64 a.label] := hv5
    have hbelow := hK.ctr
    have hK := hK.fresh hk5 (fun g hg => by rw [List.mem_singleton.1 hg]; omega)
    have hp := hp.keep hk5 (fun g hg h => by rw [List.mem_singleton.1 hg] at h; have := List.mem_singleton.1 h; omega)
    have hq := hq.keep hk5 (fun g hg h => by rw [List.mem_singleton.1 hg] at h; have := List.mem_singleton.1 h; omega)
    refine w_nil ?_
    refine then_n ?_
    repeat refine wc_seq ?_
    refine wc_region ?_
    refine w_val rfl rfl (op_fld rfl rfl rfl rfl (by decide) (by assumption) (Nat.le_of_ble_eq_true rfl)) ?_
    refine w_val rfl rfl (op_load rfl rfl (by assumption) rfl) ?_
    refine w_val rfl rfl (op_pure rfl) ?_
    refine w_val rfl rfl (op_pure rfl) ?_
    refine w_split (i := 45) rfl (fun h45 => ?_) (fun h45 => ?_)
    · simp only [decide_eq_true_eq] at h45
      refine w_off rfl rfl ?_
      refine w_off rfl rfl ?_
      refine w_off rfl rfl ?_
      refine w_val rfl rfl (op_pure rfl) ?_
      refine w_nil ?_
      refine then_n ?_
      refine wc_cond_t rfl ?_
      repeat refine wc_seq ?_
      refine wc_region ?_
      refine w_val rfl rfl (op_pure rfl) ?_
      refine w_val rfl rfl (op_pure rfl) ?_
      refine w_store_all (old := [.int .i64 0, .int .i64 0, .int .i64 0]) rfl rfl rfl rfl rfl (by rfl) rfl hK.ok hq (by simp [AV.gs]) ?_
      intro sq hq' hkq hcq
      have hq : Pt sq.h (.ptr s1.ctr 0 0) [.int .i64 130, .int .i64 (-1), .int .i64 (i : Nat)] := hq'
      have hK := hK.fresh hkq (fun g hg => by rw [List.mem_singleton.1 hg]; have := hk1.ctr; omega)
      refine w_nil ?_
      refine then_n ?_
      refine wc_ret ?_
      repeat first | refine then_r ?_ | refine out_r ?_ | refine round_r ?_ | refine cut_r ?_ | refine sc_r ?_
      exact ⟨_, res_cell rfl rfl hq rfl, hK, congrArg (fun r => AV.agg (faultC r)) (chk_arr hmany (fo_hit hfo (arrP_bad ha (by omega)) hi')).symm⟩
    simp only [decide_eq_false_iff_not] at h45
    refine w_val rfl rfl (op_fld rfl rfl rfl rfl (by decide) (by assumption) (Nat.le_of_ble_eq_true rfl)) ?_
    refine w_val rfl rfl (op_load rfl rfl (by assumption) rfl) ?_
    refine w_val rfl rfl (op_pure rfl) ?_
    refine w_val rfl rfl (op_pure rfl) ?_
    refine w_nil ?_
    refine then_n ?_
    refine wc_condT rfl (fun h49 => ?_) (fun h49 => ?_)
    · simp only [decide_eq_true_eq, gt_iff_lt] at h49
      repeat refine wc_seq ?_
      refine wc_region ?_
      refine w_val rfl rfl (op_pure rfl) ?_
      refine w_val rfl rfl (op_pure rfl) ?_
      refine w_store_all (old := [.int .i64 0, .int .i64 0, .int .i64 0]) rfl rfl rfl rfl rfl (by rfl) rfl hK.ok hq (by simp [AV.gs]) ?_
      intro sq hq' hkq hcq
      have hq : Pt sq.h (.ptr s1.ctr 0 0) [.int .i64 130, .int .i64 (-1), .int .i64 (i : Nat)] := hq'
      have hK := hK.fresh hkq (fun g hg => by rw [List.mem_singleton.1 hg]; have := hk1.ctr; omega)
      refine w_nil ?_
      refine then_n ?_
      refine wc_ret ?_
      repeat first | refine then_r ?_ | refine out_r ?_ | refine round_r ?_ | refine cut_r ?_ | refine sc_r ?_
      exact ⟨_, res_cell rfl rfl hq rfl, hK, congrArg (fun r => AV.agg (faultC r)) (chk_arr hmany (fo_hit hfo (arrP_bad ha (by omega)) hi')).symm⟩
    simp only [decide_eq_false_iff_not, gt_iff_lt] at h49
    refine wc_skip ?_
    refine out_n ?_
    refine then_n ?_
    refine wc_region ?_
    refine w_val rfl rfl (op_add rfl rfl (by unfold In64; omega)) ?_
    refine w_val rfl rfl (op_pure rfl) ?_
    refine w_nil ?_
    exact round_n _ _ (by omega) (Sub.cons rfl (Sub.cons rfl (Sub.cons rfl (Sub.cons rfl (Sub.cons rfl (Sub.nil _)))))) ⟨i + 1, rfl, by omega, rfl, hK, by omega, hp, hq, fo_next hfo (arrP_ok ha (by omega))⟩
  simp only [decide_eq_false_iff_not] at h38
  obtain rfl : i = mm.arrays.length := by omega
  refine wc_exit ?_
  repeat first | refine then_x ?_ | refine round_x ?_ | refine cut_x ?_ | refine out_x' (by decide) ?_
  refine out_x ?_
  refine then_n ?_
  repeat refine wc_seq ?_
  refine wc_label ?_
  refine then_n ?_
  repeat refine wc_seq ?_
  refine wc_region ?_
  refine w_val rfl rfl (op_fld rfl rfl rfl rfl (by decide) (by assumption) (Nat.le_of_ble_eq_true rfl)) ?_
  refine w_val rfl rfl (op_load rfl rfl (Pt.fld (by assumption) _ (Nat.le_of_ble_eq_true rfl)) rfl) ?_
  refine w_val rfl rfl (op_len rfl rfl rfl rfl rfl (by assumption)) ?_
  refine w_val rfl rfl (op_pure rfl) ?_
  refine w_nil ?_
  refine then_n ?_
  repeat refine wc_seq ?_
  refine wc_cut (fun m' s' => Sub [(2, .ptr s1.ctr 0 0)] m' ∧ Keep [] s s' ∧ s2.ctr ≤ s'.ctr ∧ Pt s'.h (.ptr s1.ctr 0 0) (faultC (checkF mm))) ?_ ?_
  · refine wc_block ?_
    refine wc_loop_at (fun j m sI => ∃ (f : Nat), j = mm.funcs.length - f ∧ f ≤ mm.funcs.length ∧ m = [(1, .ptr s.ctr 0 0), (2, .ptr s1.ctr 0 0), (54, vf), (55, .int .i64 (mm.funcs.length : Nat)), (56, .int .i64 (f : Nat))] ∧ Keep [] s sI ∧ s2.ctr ≤ sI.ctr ∧ Pt sI.h (.ptr s.ctr 0 0) [vg, va, vh, vf] ∧ Pt sI.h (.ptr s1.ctr 0 0) [.int .i64 0, .int .i64 0, .int .i64 0] ∧ fo (funP mm) f = none) mm.funcs.length
      [(1, .ptr s.ctr 0 0), (2, .ptr s1.ctr 0 0), (54, vf), (55, .int .i64 (mm.funcs.length : Nat)), (56, .int .i64 ((0 : Nat) : Int))] (Sub.cons rfl (Sub.cons rfl (Sub.cons rfl (Sub.cons rfl (Sub.cons rfl (Sub.nil _)))))) ⟨0, by simp, by simp, rfl, hK, hcI, hp, hq, rfl⟩ ?_
    clear hK hp hq hcI
    rintro j m s6 ⟨f, rfl, hf, rfl, hK, hcI, hp, hq, hff⟩
    repeat refine wc_seq ?_
    refine wc_region ?_
    refine w_val rfl rfl (op_pure rfl) ?_
    refine w_nil ?_
    refine then_n ?_
    repeat refine wc_seq ?_
    refine wc_condT rfl (fun h57 => ?_) (fun h57 => ?_)
    · simp only [decide_eq_true_eq] at h57
      refine wc_skip ?_
      refine then_n ?_
      repeat refine wc_seq ?_
      refine wc_block ?_
      repeat refine wc_seq ?_
      obtain ⟨x, hx⟩ : ∃ x, mm.funcs[f]? = some x := ⟨_, List.getElem?_eq_getElem (by omega)⟩
      have hf' : f < mm.funcs.length := by omega
      obtain ⟨cx, hcx⟩ : ∃ c, csf[f]? = some c := ⟨_, List.getElem?_eq_getElem (by omega)⟩
      have hfx := hF f x cx hx hcx
      have hzx := hfx.leaf.2
      obtain ⟨vp, vr, vc, rfl, hvp, hvr, hvc⟩ := hfx
      have hsx := hm.2.2.2.2 x (List.mem_of_getElem? hx)
      have hx3 := hsx.2.2
      have hsc : vc.slen = some x.code.length := hvc.slenF
      refine wc_region ?_
      refine w_val rfl rfl (op_pure rfl) ?_
      refine w_val rfl rfl (op_idx rfl rfl (natA_cast _ _) rfl rfl rfl rfl (Row.keep0 (by assumption) hK) (by omega)) ?_
      refine w_val rfl rfl (op_load rfl rfl (Pt.keep0 (Row.pt (by assumption) (by assumption)) hK) rfl) ?_
      refine w_alloc rfl rfl rfl rfl hK.ok ?_
      intro s7 hv7 hk7 hc7
      have hK := hK.two hk7
      have hp := hp.keep0 hk7
      have hq := hq.keep0 hk7
      refine w_val rfl rfl (op_pure rfl) ?_
      refine w_store_all rfl rfl rfl rfl rfl (by rfl) hzx hK.ok hv7 (by simp [AV.gs]) ?_
      intro s8 hv8 hk8 hc8
      have hw : Pt s8.h (.ptr s6.ctr 0 0) [.int .u64 x.level, vp, vr, .int .i64 x.locals, .int .i64 x.stack, vc] := hv8
      have hbelow := hK.ctr
      have hK := hK.fresh hk8 (fun g hg => by rw [List.mem_singleton.1 hg]; omega)
      have hp := hp.keep hk8 (fun g hg h => by rw [List.mem_singleton.1 hg] at h; have := List.mem_singleton.1 h; omega)
      have hq := hq.keep hk8 (fun g hg h => by rw [List.mem_singleton.1 hg] at h; have := List.mem_singleton.1 h; omega)
      refine w_nil ?_
      refine then_n ?_
      repeat refine wc_seq ?_
      refine wc_region ?_
      refine w_val rfl rfl (op_load rfl rfl (by assumption) rfl) ?_
      refine w_call rfl rfl (op_call rfl rfl rfl rfl) (head_ok (x := x) hK.ok hsx ⟨vp, vr, vc, rfl, hvp.keep0 hK, hvr.keep0 hK, hvc.keep0 hK⟩) ?_
      rintro _ s9 ⟨hk9, rfl⟩
      have hc9 := hk9.ctr
      have hK := hK.two hk9
      have hp := hp.keep0 hk9
      have hq := hq.keep0 hk9
      have hw := hw.keep0 hk9
      refine w_val rfl rfl (op_pure rfl) ?_
      refine w_nil ?_
      refine then_n ?_
      repeat refine wc_seq ?_
      refine wc_region ?_
      refine w_val rfl rfl (op_pure rfl) ?_
      refine w_val rfl rfl (op_pure rfl) ?_
      refine w_nil ?_
      refine then_n ?_
      repeat refine wc_seq ?_
      refine wc_condT rfl (fun h64 => ?_) (fun h64 => ?_)
      · simp only [bne_iff_ne, ne_eq] at h64
        repeat refine wc_seq ?_
        refine wc_region ?_
        refine w_val rfl rfl (op_pure rfl) ?_
        refine w_val rfl rfl (op_pure rfl) ?_
        refine w_val rfl rfl (op_pure rfl) ?_
        refine w_store_all (old := [.int .i64 0, .int .i64 0, .int .i64 0]) rfl rfl rfl rfl rfl (by rfl) rfl hK.ok hq (by simp [AV.gs]) ?_
        intro sq hq' hkq hcq
        have hq : Pt sq.h (.ptr s1.ctr 0 0) [.int .i64 (headE x), .int .i64 (f : Nat), .int .i64 (-1)] := hq'
        have hK := hK.fresh hkq (fun g hg => by rw [List.mem_singleton.1 hg]; have := hk1.ctr; omega)
        refine w_nil ?_
        refine then_n ?_
        refine wc_exit ?_
        repeat first | refine then_x ?_ | refine round_x ?_ | refine cut_x ?_ | refine out_x' (by decide) ?_
        refine out_x ?_
        refine cut_n ?_
        exact ⟨Sub.cons rfl (Sub.nil _), hK, by omega, by rw [chk_fun hmany hfo (fo_hit hff (funP_head hx h64) hf')]; exact hq⟩
      simp only [bne_eq_false_iff_eq] at h64
      refine wc_skip ?_
      refine then_n ?_
      repeat refine wc_seq ?_
      refine wc_region ?_
      refine w_val rfl rfl (op_fld rfl rfl rfl rfl (by decide) (by assumption) (Nat.le_of_ble_eq_true rfl)) ?_
      refine w_val rfl rfl (op_load rfl rfl (Pt.fld (by assumption) _ (Nat.le_of_ble_eq_true rfl)) rfl) ?_
      refine w_val rfl rfl (op_len rfl rfl rfl rfl rfl (by assumption)) ?_
      refine w_val rfl rfl (op_pure rfl) ?_
      refine w_nil ?_
      refine then_n ?_
      refine wc_block ?_
      refine wc_loop_at (fun j m sI => ∃ (a : Nat), j = x.code.length - a ∧ a ≤ x.code.length ∧ m = [(1, .ptr s.ctr 0 0), (2, .ptr s1.ctr 0 0), (5, .int .i64 (f : Nat)), (6, .ptr s6.ctr 0 0), (54, vf), (55, .int .i64 (mm.funcs.length : Nat)), (56, .int .i64 (f : Nat)), (69, vc), (70, .int .i64 (x.code.length : Nat)), (71, .int .i64 (a : Nat))] ∧ Keep [] s sI ∧ s2.ctr ≤ sI.ctr ∧ Pt sI.h (.ptr s.ctr 0 0) [vg, va, vh, vf] ∧ Pt sI.h (.ptr s1.ctr 0 0) [.int .i64 0, .int .i64 0, .int .i64 0] ∧ s8.ctr ≤ sI.ctr ∧ Pt sI.h (.ptr s6.ctr 0 0) [.int .u64 x.level, vp, vr, .int .i64 x.locals, .int .i64 x.stack, vc] ∧ fo (insP mm x f) a = none) x.code.length
        [(1, .ptr s.ctr 0 0), (2, .ptr s1.ctr 0 0), (5, .int .i64 (f : Nat)), (6, .ptr s6.ctr 0 0), (54, vf), (55, .int .i64 (mm.funcs.length : Nat)), (56, .int .i64 (f : Nat)), (69, vc), (70, .int .i64 (x.code.length : Nat)), (71, .int .i64 ((0 : Nat) : Int))] (Sub.cons rfl (Sub.cons rfl (Sub.cons rfl (Sub.cons rfl (Sub.cons rfl (Sub.cons rfl (Sub.cons rfl (Sub.cons rfl (Sub.cons rfl (Sub.cons rfl (Sub.nil _))))))))))) ⟨0, by simp, by simp, rfl, hK, by omega, hp, hq, by omega, hw, rfl⟩ ?_
      clear hK hp hq hw
      rintro j m s10 ⟨a, rfl, ha, rfl, hK, hcJ, hp, hq, hc10, hw, hfa⟩
      repeat refine wc_seq ?_
      refine wc_region ?_
      refine w_val rfl rfl (op_pure rfl) ?_
      refine w_nil ?_
      refine then_n ?_
      repeat refine wc_seq ?_
      refine wc_condT rfl (fun h72 => ?_) (fun h72 => ?_)
      · simp only [decide_eq_true_eq] at h72
        refine wc_skip ?_
        refine then_n ?_
        repeat refine wc_seq ?_
        refine wc_block ?_
        repeat refine wc_seq ?_
        obtain ⟨y, hy⟩ : ∃ x', x.code[a]? = some x' := ⟨_, List.getElem?_eq_getElem (by omega)⟩
        have ha' : a < x.code.length := by omega
        refine wc_region ?_
        refine w_val rfl rfl (op_pure rfl) ?_
        refine w_val rfl rfl (op_idxF rfl rfl (natA_cast _ _) rfl rfl rfl rfl (Row.keep0 (by assumption) hK) (by omega)) ?_
        refine w_val rfl rfl (op_load rfl rfl (Pt.keep0 (Row.mk_pt (by assumption) (by assumption)) hK) rfl) ?_
        refine w_alloc rfl rfl rfl rfl hK.ok ?_
        intro s11 hv11 hk11 hc11
        have hK := hK.two hk11
        have hp := hp.keep0 hk11
        have hq := hq.keep0 hk11
        have hw := hw.keep0 hk11
        refine w_val rfl rfl (op_pure rfl) ?_
        refine w_store_all rfl rfl rfl rfl rfl (by rfl) rfl hK.ok hv11 (by simp [AV.gs]) ?_
        intro s12 hv12 hk12 hc12
        have hu : Pt s12.h (.ptr s10.ctr 0 0) [.int .i64 y.op, .int .i64 y.a] := hv12
        have hbelow := hK.ctr
        have hK := hK.fresh hk12 (fun g hg => by rw [List.mem_singleton.1 hg]; omega)
        have hp := hp.keep hk12 (fun g hg h => by rw [List.mem_singleton.1 hg] at h; have := List.mem_singleton.1 h; omega)
        have hq := hq.keep hk12 (fun g hg h => by rw [List.mem_singleton.1 hg] at h; have := List.mem_singleton.1 h; omega)
        have hw := hw.keep hk12 (fun g hg h => by rw [List.mem_singleton.1 hg] at h; have := List.mem_singleton.1 h; omega)
        refine w_nil ?_
        refine then_n ?_
        repeat refine wc_seq ?_
        refine wc_region ?_
        refine w_val rfl rfl (op_load rfl rfl (by assumption) rfl) ?_
        refine w_val rfl rfl (op_pure rfl) ?_
        refine w_val rfl rfl (op_load rfl rfl (by assumption) rfl) ?_
        refine w_call rfl rfl (op_call rfl rfl rfl rfl) (instr_ok (x := x) (y := y) hK.ok hm hx ⟨vg, va, vh, vf, rfl, hvg.keep0 hK, hva.keep0 hK, hvh.keep0 hK, RowR.keep0 FuncR.keep0 (⟨csf, hrf, hlf, hF⟩ : RowR s.h 6 FuncR vf mm.funcs) hK⟩) ?_
        rintro _ s13 ⟨hk13, rfl⟩
        have hc13 := hk13.ctr
        have hK := hK.two hk13
        have hp := hp.keep0 hk13
        have hq := hq.keep0 hk13
        have hw := hw.keep0 hk13
        have hu := hu.keep0 hk13
        refine w_val rfl rfl (op_pure rfl) ?_
        refine w_nil ?_
        refine then_n ?_
        repeat refine wc_seq ?_
        refine wc_region ?_
        refine w_val rfl rfl (op_pure rfl) ?_
        refine w_val rfl rfl (op_pure rfl) ?_
        refine w_val rfl rfl (op_pure rfl) ?_
        refine w_split (i := 82) rfl (fun h82 => ?_) (fun h82 => ?_)
        · simp only [beq_iff_eq] at h82
          refine w_val rfl rfl (op_pure rfl) ?_
          refine w_val rfl rfl (op_fld rfl rfl rfl rfl (by decide) (by assumption) (Nat.le_of_ble_eq_true rfl)) ?_
          refine w_val rfl rfl (op_load rfl rfl (Pt.fld (by assumption) _ (Nat.le_of_ble_eq_true rfl)) rfl) ?_
          refine w_val rfl rfl (op_len rfl rfl rfl rfl rfl (by assumption)) ?_
          refine w_val rfl rfl (op_sub rfl rfl (by unfold In64; omega)) ?_
          refine w_val rfl rfl (op_pure rfl) ?_
          refine w_val rfl rfl (op_pure rfl) ?_
          refine w_val rfl rfl (op_pure rfl) ?_
          refine w_split (i := 90) rfl (fun h90 => ?_) (fun h90 => ?_)
          · simp only [beq_iff_eq] at h90
            refine w_val rfl rfl (op_fld rfl rfl rfl rfl (by decide) (by assumption) (Nat.le_of_ble_eq_true rfl)) ?_
            refine w_val rfl rfl (op_load rfl rfl (by assumption) rfl) ?_
            refine w_val rfl rfl (op_pure rfl) ?_
            refine w_val rfl rfl (op_pure rfl) ?_
            refine w_val rfl rfl (op_pure rfl) ?_
            refine w_split (i := 95) rfl (fun h95 => ?_) (fun h95 => ?_)
            · simp only [bne_iff_ne, ne_eq] at h95
              refine w_val rfl rfl (op_fld rfl rfl rfl rfl (by decide) (by assumption) (Nat.le_of_ble_eq_true rfl)) ?_
              refine w_val rfl rfl (op_load rfl rfl (by assumption) rfl) ?_
              refine w_val rfl rfl (op_pure rfl) ?_
              refine w_val rfl rfl (op_pure rfl) ?_
              refine w_nil ?_
              refine then_n ?_
              repeat refine wc_seq ?_
              refine wc_condT rfl (fun h99 => ?_) (fun h99 => ?_)
              · simp only [bne_iff_ne, ne_eq] at h99
                refine wc_region ?_
                refine w_val rfl rfl (op_pure rfl) ?_
                refine w_nil ?_
                refine then_n ?_
                repeat refine wc_seq ?_
                refine wc_region ?_
                refine w_val rfl rfl (op_pure rfl) ?_
                refine w_val rfl rfl (op_pure rfl) ?_
                refine w_nil ?_
                refine then_n ?_
                refine wc_condT rfl (fun h101 => ?_) (fun h101 => ?_)
                · skip
                  repeat refine wc_seq ?_
                  refine wc_region ?_
                  refine w_val rfl rfl (op_pure rfl) ?_
                  refine w_val rfl rfl (op_pure rfl) ?_
                  refine w_val rfl rfl (op_pure rfl) ?_
                  refine w_val rfl rfl (op_pure rfl) ?_
                  first
                    | (refine w_store_all (u := .agg [.int .i64 131, .int .i64 (f : Nat), .int .i64 (a : Nat)]) (old := [.int .i64 0, .int .i64 0, .int .i64 0]) rfl rfl rfl rfl rfl (by rfl) rfl hK.ok hq (by simp [AV.gs]) ?_)
                    | (refine w_store_all (u := .agg [.int .i64 (instrE mm x y), .int .i64 (f : Nat), .int .i64 (a : Nat)]) (old := [.int .i64 0, .int .i64 0, .int .i64 0]) rfl rfl rfl rfl rfl (by rfl) rfl hK.ok hq (by simp [AV.gs]) ?_)
                  intro sq hq' hkq hcq
                  have hK := hK.fresh hkq (fun g hg => by rw [List.mem_singleton.1 hg]; have := hk1.ctr; omega)
                  refine w_nil ?_
                  refine then_n ?_
                  refine wc_exit ?_
                  repeat first | refine then_x ?_ | refine round_x ?_ | refine cut_x ?_ | refine out_x' (by decide) ?_
                  refine out_x ?_
                  refine cut_n ?_
                  exact ⟨Sub.cons rfl (Sub.nil _), hK, by omega, by rw [chk_fun hmany hfo (fo_hit hff (funP_ins hx h64 (fo_hit hfa (insP_some hy (insE_fall h82 (by omega) h95 h99) (by decide)) ha')) hf')]; exact hq'⟩
                skip
                refine wc_skip ?_
                refine out_n ?_
                refine then_n ?_
                refine wc_region ?_
                refine w_val rfl rfl (op_add rfl rfl (by unfold In64; omega)) ?_
                refine w_val rfl rfl (op_pure rfl) ?_
                refine w_nil ?_
                exact absurd h101 (by decide)
              simp only [bne_eq_false_iff_eq] at h99
              refine wc_skip ?_
              refine then_n ?_
              repeat refine wc_seq ?_
              refine wc_region ?_
              refine w_val rfl rfl (op_pure rfl) ?_
              refine w_val rfl rfl (op_pure rfl) ?_
              refine w_nil ?_
              refine then_n ?_
              refine wc_condT rfl (fun h101 => ?_) (fun h101 => ?_)
              · skip
                repeat refine wc_seq ?_
                refine wc_region ?_
                refine w_val rfl rfl (op_pure rfl) ?_
                refine w_val rfl rfl (op_pure rfl) ?_
                refine w_val rfl rfl (op_pure rfl) ?_
                refine w_val rfl rfl (op_pure rfl) ?_
                first
                  | (refine w_store_all (u := .agg [.int .i64 131, .int .i64 (f : Nat), .int .i64 (a : Nat)]) (old := [.int .i64 0, .int .i64 0, .int .i64 0]) rfl rfl rfl rfl rfl (by rfl) rfl hK.ok hq (by simp [AV.gs]) ?_)
                  | (refine w_store_all (u := .agg [.int .i64 (instrE mm x y), .int .i64 (f : Nat), .int .i64 (a : Nat)]) (old := [.int .i64 0, .int .i64 0, .int .i64 0]) rfl rfl rfl rfl rfl (by rfl) rfl hK.ok hq (by simp [AV.gs]) ?_)
                intro sq hq' hkq hcq
                have hK := hK.fresh hkq (fun g hg => by rw [List.mem_singleton.1 hg]; have := hk1.ctr; omega)
                refine w_nil ?_
                refine then_n ?_
                refine wc_exit ?_
                repeat first | refine then_x ?_ | refine round_x ?_ | refine cut_x ?_ | refine out_x' (by decide) ?_
                refine out_x ?_
                refine cut_n ?_
                exact absurd h101 (by rw [h82]; decide)
              skip
              refine wc_skip ?_
              refine out_n ?_
              refine then_n ?_
              refine wc_region ?_
              refine w_val rfl rfl (op_add rfl rfl (by unfold In64; omega)) ?_
              refine w_val rfl rfl (op_pure rfl) ?_
              refine w_nil ?_
              exact round_n _ _ (by omega) (Sub.cons rfl (Sub.cons rfl (Sub.cons rfl (Sub.cons rfl (Sub.cons rfl (Sub.cons rfl (Sub.cons rfl (Sub.cons rfl (Sub.cons rfl (Sub.cons rfl (Sub.nil _))))))))))) ⟨a + 1, rfl, by omega, rfl, hK, by omega, hp, hq, by omega, hw, fo_next hfa (insP_none hy (insE_none h82 (fun k => k.2.2 h99)))⟩
            simp only [bne_eq_false_iff_eq] at h95
            refine w_off rfl rfl ?_
            refine w_off rfl rfl ?_
            refine w_off rfl rfl ?_
            refine w_val rfl rfl (op_pure rfl) ?_
            refine w_nil ?_
            refine then_n ?_
            repeat refine wc_seq ?_
            refine wc_cond_f rfl ?_
            refine wc_skip ?_
            refine then_n ?_
            repeat refine wc_seq ?_
            refine wc_region ?_
            refine w_val rfl rfl (op_pure rfl) ?_
            refine w_val rfl rfl (op_pure rfl) ?_
            refine w_nil ?_
            refine then_n ?_
            refine wc_condT rfl (fun h101 => ?_) (fun h101 => ?_)
            · skip
              repeat refine wc_seq ?_
              refine wc_region ?_
              refine w_val rfl rfl (op_pure rfl) ?_
              refine w_val rfl rfl (op_pure rfl) ?_
              refine w_val rfl rfl (op_pure rfl) ?_
              refine w_val rfl rfl (op_pure rfl) ?_
              first
                | (refine w_store_all (u := .agg [.int .i64 131, .int .i64 (f : Nat), .int .i64 (a : Nat)]) (old := [.int .i64 0, .int .i64 0, .int .i64 0]) rfl rfl rfl rfl rfl (by rfl) rfl hK.ok hq (by simp [AV.gs]) ?_)
                | (refine w_store_all (u := .agg [.int .i64 (instrE mm x y), .int .i64 (f : Nat), .int .i64 (a : Nat)]) (old := [.int .i64 0, .int .i64 0, .int .i64 0]) rfl rfl rfl rfl rfl (by rfl) rfl hK.ok hq (by simp [AV.gs]) ?_)
              intro sq hq' hkq hcq
              have hK := hK.fresh hkq (fun g hg => by rw [List.mem_singleton.1 hg]; have := hk1.ctr; omega)
              refine w_nil ?_
              refine then_n ?_
              refine wc_exit ?_
              repeat first | refine then_x ?_ | refine round_x ?_ | refine cut_x ?_ | refine out_x' (by decide) ?_
              refine out_x ?_
              refine cut_n ?_
              exact absurd h101 (by rw [h82]; decide)
            skip
            refine wc_skip ?_
            refine out_n ?_
            refine then_n ?_
            refine wc_region ?_
            refine w_val rfl rfl (op_add rfl rfl (by unfold In64; omega)) ?_
            refine w_val rfl rfl (op_pure rfl) ?_
            refine w_nil ?_
            exact round_n _ _ (by omega) (Sub.cons rfl (Sub.cons rfl (Sub.cons rfl (Sub.cons rfl (Sub.cons rfl (Sub.cons rfl (Sub.cons rfl (Sub.cons rfl (Sub.cons rfl (Sub.cons rfl (Sub.nil _))))))))))) ⟨a + 1, rfl, by omega, rfl, hK, by omega, hp, hq, by omega, hw, fo_next hfa (insP_none hy (insE_none h82 (fun k => k.2.1 h95)))⟩
          simp only [beq_eq_false_iff_ne, ne_eq] at h90
          refine w_off rfl rfl ?_
          refine w_off rfl rfl ?_
          refine w_off rfl rfl ?_
          refine w_val rfl rfl (op_pure rfl) ?_
          refine w_val rfl rfl (op_pure rfl) ?_
          refine w_off rfl rfl ?_
          refine w_off rfl rfl ?_
          refine w_off rfl rfl ?_
          refine w_val rfl rfl (op_pure rfl) ?_
          refine w_nil ?_
          refine then_n ?_
          repeat refine wc_seq ?_
          refine wc_cond_f rfl ?_
          refine wc_skip ?_
          refine then_n ?_
          repeat refine wc_seq ?_
          refine wc_region ?_
          refine w_val rfl rfl (op_pure rfl) ?_
          refine w_val rfl rfl (op_pure rfl) ?_
          refine w_nil ?_
          refine then_n ?_
          refine wc_condT rfl (fun h101 => ?_) (fun h101 => ?_)
          · skip
            repeat refine wc_seq ?_
            refine wc_region ?_
            refine w_val rfl rfl (op_pure rfl) ?_
            refine w_val rfl rfl (op_pure rfl) ?_
            refine w_val rfl rfl (op_pure rfl) ?_
            refine w_val rfl rfl (op_pure rfl) ?_
            first
              | (refine w_store_all (u := .agg [.int .i64 131, .int .i64 (f : Nat), .int .i64 (a : Nat)]) (old := [.int .i64 0, .int .i64 0, .int .i64 0]) rfl rfl rfl rfl rfl (by rfl) rfl hK.ok hq (by simp [AV.gs]) ?_)
              | (refine w_store_all (u := .agg [.int .i64 (instrE mm x y), .int .i64 (f : Nat), .int .i64 (a : Nat)]) (old := [.int .i64 0, .int .i64 0, .int .i64 0]) rfl rfl rfl rfl rfl (by rfl) rfl hK.ok hq (by simp [AV.gs]) ?_)
            intro sq hq' hkq hcq
            have hK := hK.fresh hkq (fun g hg => by rw [List.mem_singleton.1 hg]; have := hk1.ctr; omega)
            refine w_nil ?_
            refine then_n ?_
            refine wc_exit ?_
            repeat first | refine then_x ?_ | refine round_x ?_ | refine cut_x ?_ | refine out_x' (by decide) ?_
            refine out_x ?_
            refine cut_n ?_
            exact absurd h101 (by rw [h82]; decide)
          skip
          refine wc_skip ?_
          refine out_n ?_
          refine then_n ?_
          refine wc_region ?_
          refine w_val rfl rfl (op_add rfl rfl (by unfold In64; omega)) ?_
          refine w_val rfl rfl (op_pure rfl) ?_
          refine w_nil ?_
          exact round_n _ _ (by omega) (Sub.cons rfl (Sub.cons rfl (Sub.cons rfl (Sub.cons rfl (Sub.cons rfl (Sub.cons rfl (Sub.cons rfl (Sub.cons rfl (Sub.cons rfl (Sub.cons rfl (Sub.nil _))))))))))) ⟨a + 1, rfl, by omega, rfl, hK, by omega, hp, hq, by omega, hw, fo_next hfa (insP_none hy (insE_none h82 (fun k => h90 (by omega))))⟩
        simp only [beq_eq_false_iff_ne, ne_eq] at h82
        refine w_off rfl rfl ?_
        refine w_off rfl rfl ?_
        refine w_off rfl rfl ?_
        refine w_off rfl rfl ?_
        refine w_off rfl rfl ?_
        refine w_off rfl rfl ?_
        refine w_val rfl rfl (op_pure rfl) ?_
        refine w_val rfl rfl (op_pure rfl) ?_
        refine w_off rfl rfl ?_
        refine w_off rfl rfl ?_
        refine w_off rfl rfl ?_
        refine w_val rfl rfl (op_pure rfl) ?_
        refine w_val rfl rfl (op_pure rfl) ?_
        refine w_off rfl rfl ?_
        refine w_off rfl rfl ?_
        refine w_off rfl rfl ?_
        refine w_val rfl rfl (op_pure rfl) ?_
        refine w_nil ?_
        refine then_n ?_
        repeat refine wc_seq ?_
        refine wc_cond_f rfl ?_
        refine wc_skip ?_
        refine then_n ?_
        repeat refine wc_seq ?_
        refine wc_region ?_
        refine w_val rfl rfl (op_pure rfl) ?_
        refine w_val rfl rfl (op_pure rfl) ?_
        refine w_nil ?_
        refine then_n ?_
        refine wc_condT rfl (fun h101 => ?_) (fun h101 => ?_)
        · skip
          repeat refine wc_seq ?_
          refine wc_region ?_
          refine w_val rfl rfl (op_pure rfl) ?_
          refine w_val rfl rfl (op_pure rfl) ?_
          refine w_val rfl rfl (op_pure rfl) ?_
          refine w_val rfl rfl (op_pure rfl) ?_
          first
            | (refine w_store_all (u := .agg [.int .i64 131, .int .i64 (f : Nat), .int .i64 (a : Nat)]) (old := [.int .i64 0, .int .i64 0, .int .i64 0]) rfl rfl rfl rfl rfl (by rfl) rfl hK.ok hq (by simp [AV.gs]) ?_)
            | (refine w_store_all (u := .agg [.int .i64 (instrE mm x y), .int .i64 (f : Nat), .int .i64 (a : Nat)]) (old := [.int .i64 0, .int .i64 0, .int .i64 0]) rfl rfl rfl rfl rfl (by rfl) rfl hK.ok hq (by simp [AV.gs]) ?_)
          intro sq hq' hkq hcq
          have hK := hK.fresh hkq (fun g hg => by rw [List.mem_singleton.1 hg]; have := hk1.ctr; omega)
          refine w_nil ?_
          refine then_n ?_
          refine wc_exit ?_
          repeat first | refine then_x ?_ | refine round_x ?_ | refine cut_x ?_ | refine out_x' (by decide) ?_
          refine out_x ?_
          refine cut_n ?_
          exact ⟨Sub.cons rfl (Sub.nil _), hK, by omega, by rw [chk_fun hmany hfo (fo_hit hff (funP_ins hx h64 (fo_hit hfa (insP_some hy (insE_own h82) h82) ha')) hf')]; exact hq'⟩
        skip
        refine wc_skip ?_
        refine out_n ?_
        refine then_n ?_
        refine wc_region ?_
        refine w_val rfl rfl (op_add rfl rfl (by unfold In64; omega)) ?_
        refine w_val rfl rfl (op_pure rfl) ?_
        refine w_nil ?_
        exact absurd (bne_eq_false_iff_eq.1 h101) h82
      simp only [decide_eq_false_iff_not] at h72
      obtain rfl : a = x.code.length := by omega
      refine wc_exit ?_
      repeat first | refine then_x ?_ | refine round_x ?_ | refine cut_x ?_ | refine out_x' (by decide) ?_
      refine out_x ?_
      refine out_n ?_
      refine then_n ?_
      refine wc_region ?_
      refine w_val rfl rfl (op_add rfl rfl (by unfold In64; omega)) ?_
      refine w_val rfl rfl (op_pure rfl) ?_
      refine w_nil ?_
      exact round_n _ _ (by omega) (Sub.cons rfl (Sub.cons rfl (Sub.cons rfl (Sub.cons rfl (Sub.cons rfl (Sub.nil _)))))) ⟨f + 1, rfl, by omega, rfl, hK, by omega, hp, hq, fo_next hff (funP_none hx h64 hfa)⟩
    simp only [decide_eq_false_iff_not] at h57
    obtain rfl : f = mm.funcs.length := by omega
    refine wc_exit ?_
    repeat first | refine then_x ?_ | refine round_x ?_ | refine cut_x ?_ | refine out_x' (by decide) ?_
    refine out_x ?_
    refine cut_n ?_
    exact ⟨Sub.cons rfl (Sub.nil _), hK, by omega, by rw [chk_ok hmany hfo hff]; exact hq⟩
  rintro m s14 ⟨hsub, hK, hcE, hq⟩
  refine then_n ?_
  repeat refine wc_seq ?_
  refine wc_sub hsub ?_
  clear hsub
  refine wc_region ?_
  refine w_val rfl rfl (op_load rfl rfl (by assumption) rfl) ?_
  refine w_store_all (old := faultC (checkF mm)) rfl rfl rfl rfl rfl (by rfl) rfl hK.ok hq (by simp [AV.gs]) ?_
  intro sq hq' hkq hcq
  have hq : Pt sq.h (.ptr s1.ctr 0 0) (faultC (checkF mm)) := hq'
  have hK := hK.fresh hkq (fun g hg => by rw [List.mem_singleton.1 hg]; have := hk1.ctr; omega)
  refine w_nil ?_
  refine then_n ?_
  refine wc_ret ?_
  repeat first | refine then_r ?_ | refine out_r ?_ | refine round_r ?_ | refine cut_r ?_ | refine sc_r ?_
  exact ⟨_, res_cell rfl rfl hq rfl, hK, rfl⟩
end Go.Ab
/- The document's link: an instruction behind another module. -/
namespace Go.Ab
open Go.Proofs
def moreE (mm : ModL) (op : Int) : Int :=
  if op = 35 ∨ op = 36 then mm.globals.length
  else if op = 37 ∨ op = 38 then mm.arrays.length
  else if op = 47 then mm.channels.length
  else if op = 45 then mm.funcs.length
  else 0
def turnI (mm : ModL) (y : InstrL) : InstrL := ⟨y.op, y.a + moreE mm y.op⟩
theorem more_glo {mm : ModL} {op : Int} (h : op = 35 ∨ op = 36) : moreE mm op = mm.globals.length := if_pos h
theorem more_arr {mm : ModL} {op : Int} (h : op = 37 ∨ op = 38) : moreE mm op = mm.arrays.length := by unfold moreE; rw [if_neg (by omega), if_pos h]
theorem more_snd {mm : ModL} {op : Int} (h : op = 47) : moreE mm op = mm.channels.length := by unfold moreE; rw [if_neg (by omega), if_neg (by omega), if_pos h]
theorem more_cal {mm : ModL} {op : Int} (h : op = 45) : moreE mm op = mm.funcs.length := by unfold moreE; rw [if_neg (by omega), if_neg (by omega), if_neg (by omega), if_pos h]
theorem more_no {mm : ModL} {op : Int} (h35 : ¬ op = 35) (h36 : ¬ op = 36) (h37 : ¬ op = 37) (h38 : ¬ op = 38) (h47 : ¬ op = 47) (h45 : ¬ op = 45) : moreE mm op = 0 := by
  unfold moreE; rw [if_neg (fun k => k.elim h35 h36), if_neg (fun k => k.elim h37 h38), if_neg h47, if_neg h45]
/-- Operands that are moved are small. -/
def OpSmall (y : InstrL) : Prop := (35 ≤ y.op ∧ y.op ≤ 38) ∨ y.op = 45 ∨ y.op = 47 → 0 ≤ y.a ∧ y.a ≤ 2097152
theorem OpSmall.in {y : InstrL} (h : OpSmall y) (hy : (35 ≤ y.op ∧ y.op ≤ 38) ∨ y.op = 45 ∨ y.op = 47) (n : Nat) (hn : n ≤ 2097152) : In64 (y.a + (n : Nat)) := by
  have := h hy
  unfold In64
  omega
set_option maxRecDepth 10000 in
set_option maxHeartbeats 4000000 in
theorem turned_ok {s : St} {c : List AV} {mm : ModL} {y : InstrL} (hok : s.Ok) (hm : mm.small) (hy : OpSmall y) (hv : ModR s.h mm c) :
    CallS Try.prog Tt Kt 77 [.agg c, .agg (inC y)] s (fun r s' => Keep [] s s' ∧ r = .agg (inC (turnI mm y))) := by
  have hz := hv.leaf.2
  have hA := fun h n hn => hy.in h n hn
  obtain ⟨vg, va, vh, vf, rfl, hvg, hva, hvh, csf, hrf, hlf, hF⟩ := hv
  obtain ⟨hl1, hl3, hl2, hl4, -⟩ := id hm
  refine call_of (fn := Try.f77) (nt := 46) Try.func77 rfl rfl rfl ?_
  repeat refine wc_seq ?_
  refine wc_region ?_
  refine w_box rfl rfl rfl hz hok ?_
  intro s1 hp1 hk1 hc1
  have hK := (Keep.refl hok).two hk1
  have hp : Pt s1.h (.ptr s.ctr 0 0) [vg, va, vh, vf] := hp1
  refine w_box rfl rfl rfl rfl hK.ok ?_
  intro s2 hq hk2 hc2
  have hK := hK.two hk2
  have hp := hp.keep0 hk2
  have hq : Pt s2.h (.ptr s1.ctr 0 0) [.int .i64 y.op, .int .i64 y.a] := hq
  refine w_alloc rfl rfl rfl rfl hK.ok ?_
  intro s3 hw hk3 hc3
  have hK := hK.two hk3
  have hp := hp.keep0 hk3
  have hq := hq.keep0 hk3
  have hw : Pt s3.h (.ptr s2.ctr 0 0) [.int .i64 0, .int .i64 0] := hw
  have hsa : va.slen = some mm.arrays.length := hva.slenF
  have hsg : vg.slen = some mm.globals.length := hvg.slenF
  have hsh : vh.slen = some mm.channels.length := hvh.slenF
  have hsf : vf.slen = some mm.funcs.length := hrf.slen.trans (congrArg some hlf)
  refine w_nil ?_
  refine then_n ?_
  repeat refine wc_seq ?_
  refine wc_region ?_
  refine w_val rfl rfl (op_fld rfl rfl rfl rfl (by decide) (by assumption) (Nat.le_of_ble_eq_true rfl)) ?_
  refine w_val rfl rfl (op_load rfl rfl (by assumption) rfl) ?_
  refine w_nil ?_
  refine then_n ?_
  repeat refine wc_seq ?_
  refine wc_cut (fun m' s' => ∃ n : Int, Sub [(3, .ptr s1.ctr 0 0), (4, .ptr s2.ctr 0 0)] m' ∧ Keep [] s s' ∧ Pt s'.h (.ptr s1.ctr 0 0) [.int .i64 y.op, .int .i64 n] ∧ Pt s'.h (.ptr s2.ctr 0 0) [.int .i64 0, .int .i64 0] ∧ n = y.a + moreE mm y.op) ?_ ?_
  · refine wc_block ?_
    repeat refine wc_seq ?_
    refine wc_region ?_
    refine w_val rfl rfl (op_pure rfl) ?_
    refine w_val rfl rfl (op_pure rfl) ?_
    refine w_nil ?_
    refine then_n ?_
    repeat refine wc_seq ?_
    refine wc_condT rfl (fun h7 => ?_) (fun h7 => ?_)
    · simp only [beq_iff_eq] at h7
      refine wc_skip ?_
      refine then_n ?_
      refine wc_cond_t rfl ?_
      refine wc_region ?_
      refine w_val rfl rfl (op_fld rfl rfl rfl rfl (by decide) (by assumption) (Nat.le_of_ble_eq_true rfl)) ?_
      refine w_val rfl rfl (op_load rfl rfl (Pt.fld (by assumption) _ (Nat.le_of_ble_eq_true rfl)) rfl) ?_
      refine w_val rfl rfl (op_fld rfl rfl rfl rfl (by decide) (by assumption) (Nat.le_of_ble_eq_true rfl)) ?_
      refine w_val rfl rfl (op_load rfl rfl (by assumption) rfl) ?_
      refine w_val rfl rfl (op_len rfl rfl rfl rfl rfl (by assumption)) ?_
      refine w_val rfl rfl (op_add rfl rfl (hA (.inl ⟨by omega, by omega⟩) _ hl1)) ?_
      refine w_val rfl rfl (op_fld rfl rfl rfl rfl (by decide) (by assumption) (Nat.le_of_ble_eq_true rfl)) ?_
      refine w_store_fld (o := 1) rfl rfl rfl rfl rfl rfl hK.ok hq (by simp [AV.gs]) (Nat.le_of_ble_eq_true rfl) ?_
      intro s4 hq' hk4 hc4
      have hq : Pt s4.h (.ptr s1.ctr 0 0) [.int .i64 y.op, .int .i64 (y.a + (mm.globals.length : Nat))] := hq'
      have hK := hK.fresh hk4 (fun g hg => by rw [List.mem_singleton.1 hg]; have := hk1.ctr; omega)
      have hw := hw.keep hk4 (fun g hg h => by rw [List.mem_singleton.1 hg] at h; have := List.mem_singleton.1 h; omega)
      refine w_nil ?_
      refine out_n ?_
      refine cut_n ?_
      exact ⟨_, Sub.cons rfl (Sub.cons rfl (Sub.nil _)), hK, hq, hw, by rw [more_glo (.inl h7)]⟩
    simp only [beq_eq_false_iff_ne, ne_eq] at h7
    refine wc_region ?_
    refine w_val rfl rfl (op_pure rfl) ?_
    refine w_val rfl rfl (op_pure rfl) ?_
    refine w_nil ?_
    refine then_n ?_
    refine wc_condT rfl (fun h7 => ?_) (fun h7 => ?_)
    · simp only [beq_iff_eq] at h7
      refine wc_region ?_
      refine w_val rfl rfl (op_fld rfl rfl rfl rfl (by decide) (by assumption) (Nat.le_of_ble_eq_true rfl)) ?_
      refine w_val rfl rfl (op_load rfl rfl (Pt.fld (by assumption) _ (Nat.le_of_ble_eq_true rfl)) rfl) ?_
      refine w_val rfl rfl (op_fld rfl rfl rfl rfl (by decide) (by assumption) (Nat.le_of_ble_eq_true rfl)) ?_
      refine w_val rfl rfl (op_load rfl rfl (by assumption) rfl) ?_
      refine w_val rfl rfl (op_len rfl rfl rfl rfl rfl (by assumption)) ?_
      refine w_val rfl rfl (op_add rfl rfl (hA (.inl ⟨by omega, by omega⟩) _ hl1)) ?_
      refine w_val rfl rfl (op_fld rfl rfl rfl rfl (by decide) (by assumption) (Nat.le_of_ble_eq_true rfl)) ?_
      refine w_store_fld (o := 1) rfl rfl rfl rfl rfl rfl hK.ok hq (by simp [AV.gs]) (Nat.le_of_ble_eq_true rfl) ?_
      intro s4 hq' hk4 hc4
      have hq : Pt s4.h (.ptr s1.ctr 0 0) [.int .i64 y.op, .int .i64 (y.a + (mm.globals.length : Nat))] := hq'
      have hK := hK.fresh hk4 (fun g hg => by rw [List.mem_singleton.1 hg]; have := hk1.ctr; omega)
      have hw := hw.keep hk4 (fun g hg h => by rw [List.mem_singleton.1 hg] at h; have := List.mem_singleton.1 h; omega)
      refine w_nil ?_
      refine out_n ?_
      refine cut_n ?_
      exact ⟨_, Sub.cons rfl (Sub.cons rfl (Sub.nil _)), hK, hq, hw, by rw [more_glo (.inr h7)]⟩
    simp only [beq_eq_false_iff_ne, ne_eq] at h7
    repeat refine wc_seq ?_
    refine wc_region ?_
    refine w_val rfl rfl (op_pure rfl) ?_
    refine w_val rfl rfl (op_pure rfl) ?_
    refine w_nil ?_
    refine then_n ?_
    repeat refine wc_seq ?_
    refine wc_condT rfl (fun h17 => ?_) (fun h17 => ?_)
    · simp only [beq_iff_eq] at h17
      refine wc_skip ?_
      refine then_n ?_
      refine wc_cond_t rfl ?_
      refine wc_region ?_
      refine w_val rfl rfl (op_fld rfl rfl rfl rfl (by decide) (by assumption) (Nat.le_of_ble_eq_true rfl)) ?_
      refine w_val rfl rfl (op_load rfl rfl (Pt.fld (by assumption) _ (Nat.le_of_ble_eq_true rfl)) rfl) ?_
      refine w_val rfl rfl (op_fld rfl rfl rfl rfl (by decide) (by assumption) (Nat.le_of_ble_eq_true rfl)) ?_
      refine w_val rfl rfl (op_load rfl rfl (Pt.fld (by assumption) _ (Nat.le_of_ble_eq_true rfl)) rfl) ?_
      refine w_val rfl rfl (op_len rfl rfl rfl rfl rfl (by assumption)) ?_
      refine w_val rfl rfl (op_add rfl rfl (hA (.inl ⟨by omega, by omega⟩) _ hl3)) ?_
      refine w_val rfl rfl (op_fld rfl rfl rfl rfl (by decide) (by assumption) (Nat.le_of_ble_eq_true rfl)) ?_
      refine w_store_fld (o := 1) rfl rfl rfl rfl rfl rfl hK.ok hq (by simp [AV.gs]) (Nat.le_of_ble_eq_true rfl) ?_
      intro s4 hq' hk4 hc4
      have hq : Pt s4.h (.ptr s1.ctr 0 0) [.int .i64 y.op, .int .i64 (y.a + (mm.arrays.length : Nat))] := hq'
      have hK := hK.fresh hk4 (fun g hg => by rw [List.mem_singleton.1 hg]; have := hk1.ctr; omega)
      have hw := hw.keep hk4 (fun g hg h => by rw [List.mem_singleton.1 hg] at h; have := List.mem_singleton.1 h; omega)
      refine w_nil ?_
      refine out_n ?_
      refine cut_n ?_
      exact ⟨_, Sub.cons rfl (Sub.cons rfl (Sub.nil _)), hK, hq, hw, by rw [more_arr (.inl h17)]⟩
    simp only [beq_eq_false_iff_ne, ne_eq] at h17
    refine wc_region ?_
    refine w_val rfl rfl (op_pure rfl) ?_
    refine w_val rfl rfl (op_pure rfl) ?_
    refine w_nil ?_
    refine then_n ?_
    refine wc_condT rfl (fun h17 => ?_) (fun h17 => ?_)
    · simp only [beq_iff_eq] at h17
      refine wc_region ?_
      refine w_val rfl rfl (op_fld rfl rfl rfl rfl (by decide) (by assumption) (Nat.le_of_ble_eq_true rfl)) ?_
      refine w_val rfl rfl (op_load rfl rfl (Pt.fld (by assumption) _ (Nat.le_of_ble_eq_true rfl)) rfl) ?_
      refine w_val rfl rfl (op_fld rfl rfl rfl rfl (by decide) (by assumption) (Nat.le_of_ble_eq_true rfl)) ?_
      refine w_val rfl rfl (op_load rfl rfl (Pt.fld (by assumption) _ (Nat.le_of_ble_eq_true rfl)) rfl) ?_
      refine w_val rfl rfl (op_len rfl rfl rfl rfl rfl (by assumption)) ?_
      refine w_val rfl rfl (op_add rfl rfl (hA (.inl ⟨by omega, by omega⟩) _ hl3)) ?_
      refine w_val rfl rfl (op_fld rfl rfl rfl rfl (by decide) (by assumption) (Nat.le_of_ble_eq_true rfl)) ?_
      refine w_store_fld (o := 1) rfl rfl rfl rfl rfl rfl hK.ok hq (by simp [AV.gs]) (Nat.le_of_ble_eq_true rfl) ?_
      intro s4 hq' hk4 hc4
      have hq : Pt s4.h (.ptr s1.ctr 0 0) [.int .i64 y.op, .int .i64 (y.a + (mm.arrays.length : Nat))] := hq'
      have hK := hK.fresh hk4 (fun g hg => by rw [List.mem_singleton.1 hg]; have := hk1.ctr; omega)
      have hw := hw.keep hk4 (fun g hg h => by rw [List.mem_singleton.1 hg] at h; have := List.mem_singleton.1 h; omega)
      refine w_nil ?_
      refine out_n ?_
      refine cut_n ?_
      exact ⟨_, Sub.cons rfl (Sub.cons rfl (Sub.nil _)), hK, hq, hw, by rw [more_arr (.inr h17)]⟩
    simp only [beq_eq_false_iff_ne, ne_eq] at h17
    repeat refine wc_seq ?_
    refine wc_region ?_
    refine w_val rfl rfl (op_pure rfl) ?_
    refine w_val rfl rfl (op_pure rfl) ?_
    refine w_nil ?_
    refine then_n ?_
    refine wc_condT rfl (fun h27 => ?_) (fun h27 => ?_)
    · simp only [beq_iff_eq] at h27
      refine wc_region ?_
      refine w_val rfl rfl (op_fld rfl rfl rfl rfl (by decide) (by assumption) (Nat.le_of_ble_eq_true rfl)) ?_
      refine w_val rfl rfl (op_load rfl rfl (Pt.fld (by assumption) _ (Nat.le_of_ble_eq_true rfl)) rfl) ?_
      refine w_val rfl rfl (op_fld rfl rfl rfl rfl (by decide) (by assumption) (Nat.le_of_ble_eq_true rfl)) ?_
      refine w_val rfl rfl (op_load rfl rfl (Pt.fld (by assumption) _ (Nat.le_of_ble_eq_true rfl)) rfl) ?_
      refine w_val rfl rfl (op_len rfl rfl rfl rfl rfl (by assumption)) ?_
      refine w_val rfl rfl (op_add rfl rfl (hA (.inr (.inr h27)) _ hl2)) ?_
      refine w_val rfl rfl (op_fld rfl rfl rfl rfl (by decide) (by assumption) (Nat.le_of_ble_eq_true rfl)) ?_
      refine w_store_fld (o := 1) rfl rfl rfl rfl rfl rfl hK.ok hq (by simp [AV.gs]) (Nat.le_of_ble_eq_true rfl) ?_
      intro s4 hq' hk4 hc4
      have hq : Pt s4.h (.ptr s1.ctr 0 0) [.int .i64 y.op, .int .i64 (y.a + (mm.channels.length : Nat))] := hq'
      have hK := hK.fresh hk4 (fun g hg => by rw [List.mem_singleton.1 hg]; have := hk1.ctr; omega)
      have hw := hw.keep hk4 (fun g hg h => by rw [List.mem_singleton.1 hg] at h; have := List.mem_singleton.1 h; omega)
      refine w_nil ?_
      refine out_n ?_
      refine cut_n ?_
      exact ⟨_, Sub.cons rfl (Sub.cons rfl (Sub.nil _)), hK, hq, hw, by rw [more_snd h27]⟩
    simp only [beq_eq_false_iff_ne, ne_eq] at h27
    repeat refine wc_seq ?_
    refine wc_region ?_
    refine w_val rfl rfl (op_pure rfl) ?_
    refine w_val rfl rfl (op_pure rfl) ?_
    refine w_nil ?_
    refine then_n ?_
    refine wc_condT rfl (fun h36 => ?_) (fun h36 => ?_)
    · simp only [beq_iff_eq] at h36
      refine wc_region ?_
      refine w_val rfl rfl (op_fld rfl rfl rfl rfl (by decide) (by assumption) (Nat.le_of_ble_eq_true rfl)) ?_
      refine w_val rfl rfl (op_load rfl rfl (Pt.fld (by assumption) _ (Nat.le_of_ble_eq_true rfl)) rfl) ?_
      refine w_val rfl rfl (op_fld rfl rfl rfl rfl (by decide) (by assumption) (Nat.le_of_ble_eq_true rfl)) ?_
      refine w_val rfl rfl (op_load rfl rfl (Pt.fld (by assumption) _ (Nat.le_of_ble_eq_true rfl)) rfl) ?_
      refine w_val rfl rfl (op_len rfl rfl rfl rfl rfl (by assumption)) ?_
      refine w_val rfl rfl (op_add rfl rfl (hA (.inr (.inl h36)) _ hl4)) ?_
      refine w_val rfl rfl (op_fld rfl rfl rfl rfl (by decide) (by assumption) (Nat.le_of_ble_eq_true rfl)) ?_
      refine w_store_fld (o := 1) rfl rfl rfl rfl rfl rfl hK.ok hq (by simp [AV.gs]) (Nat.le_of_ble_eq_true rfl) ?_
      intro s4 hq' hk4 hc4
      have hq : Pt s4.h (.ptr s1.ctr 0 0) [.int .i64 y.op, .int .i64 (y.a + (mm.funcs.length : Nat))] := hq'
      have hK := hK.fresh hk4 (fun g hg => by rw [List.mem_singleton.1 hg]; have := hk1.ctr; omega)
      have hw := hw.keep hk4 (fun g hg h => by rw [List.mem_singleton.1 hg] at h; have := List.mem_singleton.1 h; omega)
      refine w_nil ?_
      refine out_n ?_
      refine cut_n ?_
      exact ⟨_, Sub.cons rfl (Sub.cons rfl (Sub.nil _)), hK, hq, hw, by rw [more_cal h36]⟩
    simp only [beq_eq_false_iff_ne, ne_eq] at h36
    refine wc_skip ?_
    refine out_n ?_
    refine cut_n ?_
    exact ⟨_, Sub.cons rfl (Sub.cons rfl (Sub.nil _)), hK, hq, hw, by rw [more_no (by assumption) (by assumption) (by assumption) (by assumption) (by assumption) (by assumption)]; omega⟩
  rintro m s9 ⟨n, hsub, hK, hq, hw, rfl⟩
  refine then_n ?_
  repeat refine wc_seq ?_
  refine wc_sub hsub ?_
  clear hsub
  refine wc_region ?_
  refine w_val rfl rfl (op_load rfl rfl (by assumption) rfl) ?_
  refine w_store_all (old := [.int .i64 0, .int .i64 0]) rfl rfl rfl rfl rfl (by rfl) rfl hK.ok hw (by simp [AV.gs]) ?_
  intro s10 hw' hk10 hc10
  have hw : Pt s10.h (.ptr s2.ctr 0 0) (inC (turnI mm y)) := hw'
  have hK := hK.fresh hk10 (fun g hg => by rw [List.mem_singleton.1 hg]; have := hk1.ctr; omega)
  refine w_nil ?_
  refine then_n ?_
  refine wc_ret ?_
  repeat first | refine then_r ?_ | refine out_r ?_ | refine round_r ?_ | refine cut_r ?_ | refine sc_r ?_
  exact ⟨_, res_cell rfl rfl hw rfl, hK, rfl⟩
end Go.Ab
/- link.by, and how instructions are turned by it. -/
namespace Go.Ab
open Go.Proofs
def byL (mm : ModL) : List (AV × AV) := [(.int .i64 35, .int .i64 (mm.globals.length : Nat)), (.int .i64 36, .int .i64 (mm.globals.length : Nat)), (.int .i64 37, .int .i64 (mm.arrays.length : Nat)), (.int .i64 38, .int .i64 (mm.arrays.length : Nat)), (.int .i64 47, .int .i64 (mm.channels.length : Nat)), (.int .i64 45, .int .i64 (mm.funcs.length : Nat))]
theorem find_int (op : Int) (k : Int) (v : AV) (es : List (AV × AV)) (i : Nat) : mpFind (.int .i64 op) ((.int .i64 k, v) :: es) i = if op = k then some (some (i, v)) else mpFind (.int .i64 op) es (i + 1) := by
  by_cases h : op = k
  · subst h
    simp [mpFind, keyEq]
  · have : (op == k) = false := by simpa using h
    simp [mpFind, keyEq, this, h]
theorem look_more (mm : ModL) (op : Int) : lookV ⟨.num .i64, 1, 8, [.int .i64 0], false⟩ (byL mm) (.int .i64 op) = some (.int .i64 (moreE mm op)) := by
  unfold lookV byL
  simp only [find_int]
  by_cases h1 : op = 35
  · rw [if_pos h1, more_glo (.inl h1)]
  rw [if_neg h1]
  by_cases h2 : op = 36
  · rw [if_pos h2, more_glo (.inr h2)]
  rw [if_neg h2]
  by_cases h3 : op = 37
  · rw [if_pos h3, more_arr (.inl h3)]
  rw [if_neg h3]
  by_cases h4 : op = 38
  · rw [if_pos h4, more_arr (.inr h4)]
  rw [if_neg h4]
  by_cases h5 : op = 47
  · rw [if_pos h5, more_snd h5]
  rw [if_neg h5]
  by_cases h6 : op = 45
  · rw [if_pos h6, more_cal h6]
  rw [if_neg h6, more_no h1 h2 h3 h4 h5 h6]
  rfl
set_option maxRecDepth 10000 in
set_option maxHeartbeats 4000000 in
theorem by_ok {s : St} {c : List AV} {mm : ModL} (hok : s.Ok) (hv : ModR s.h mm c) :
    CallS Try.prog Tt Kt 67 [.agg c] s (fun r s' => Keep [] s s' ∧ ∃ g, r = .mp g ∧ s.ctr ≤ g ∧ MapAt s'.h g (byL mm)) := by
  have hz := hv.leaf.2
  obtain ⟨vg, va, vh, vf, rfl, hvg, hva, hvh, csf, hrf, hlf, hF⟩ := hv
  refine call_of (fn := Try.f67) (nt := 27) Try.func67 rfl rfl rfl ?_
  repeat refine wc_seq ?_
  refine wc_region ?_
  refine w_box rfl rfl rfl hz hok ?_
  intro s1 hp1 hk1 hc1
  have hK := (Keep.refl hok).two hk1
  have hp : Pt s1.h (.ptr s.ctr 0 0) [vg, va, vh, vf] := hp1
  have hsa : va.slen = some mm.arrays.length := hva.slenF
  have hsg : vg.slen = some mm.globals.length := hvg.slenF
  have hsh : vh.slen = some mm.channels.length := hvh.slenF
  have hsf : vf.slen = some mm.funcs.length := hrf.slen.trans (congrArg some hlf)
  refine w_val rfl rfl (op_pure rfl) ?_
  refine w_nil ?_
  refine then_n ?_
  repeat refine wc_seq ?_
  refine wc_draw (fun _ => True) (by kernel_rfl) rfl ?_
  refine wd_val (fun _ => trivial) rfl rfl (op_fld rfl rfl rfl rfl (by decide) (by assumption) (Nat.le_of_ble_eq_true rfl)) ?_
  refine wd_val (fun _ => trivial) rfl rfl (op_load rfl rfl (by assumption) rfl) ?_
  refine wd_val (fun _ => trivial) rfl rfl (op_len rfl rfl rfl rfl rfl (by assumption)) ?_
  refine wd_val (fun _ => trivial) rfl rfl (op_fld rfl rfl rfl rfl (by decide) (by assumption) (Nat.le_of_ble_eq_true rfl)) ?_
  refine wd_val (fun _ => trivial) rfl rfl (op_load rfl rfl (Pt.fld (by assumption) _ (Nat.le_of_ble_eq_true rfl)) rfl) ?_
  refine wd_val (fun _ => trivial) rfl rfl (op_len rfl rfl rfl rfl rfl (by assumption)) ?_
  refine wd_val (fun _ => trivial) rfl rfl (op_fld rfl rfl rfl rfl (by decide) (by assumption) (Nat.le_of_ble_eq_true rfl)) ?_
  refine wd_val (fun _ => trivial) rfl rfl (op_load rfl rfl (Pt.fld (by assumption) _ (Nat.le_of_ble_eq_true rfl)) rfl) ?_
  refine wd_val (fun _ => trivial) rfl rfl (op_len rfl rfl rfl rfl rfl (by assumption)) ?_
  refine wd_val (fun _ => trivial) rfl rfl (op_fld rfl rfl rfl rfl (by decide) (by assumption) (Nat.le_of_ble_eq_true rfl)) ?_
  refine wd_val (fun _ => trivial) rfl rfl (op_load rfl rfl (Pt.fld (by assumption) _ (Nat.le_of_ble_eq_true rfl)) rfl) ?_
  refine wd_val (fun _ => trivial) rfl rfl (op_len rfl rfl rfl rfl rfl (by assumption)) ?_
  refine wd_val (fun _ => trivial) rfl rfl (op_pure rfl) ?_
  refine wd_val (fun _ => trivial) rfl rfl (op_pure rfl) ?_
  refine wd_val (fun _ => trivial) rfl rfl (op_pure rfl) ?_
  refine wd_val (fun _ => trivial) rfl rfl (op_pure rfl) ?_
  refine wd_nil ?_
  refine then_n ?_
  repeat refine wc_seq ?_
  refine wc_region ?_
  refine w_makeMap rfl rfl rfl rfl hK.ok ?_
  intro s2 hm2 hk2 hc2
  have hK := hK.two hk2
  refine w_val rfl rfl (op_pure rfl) ?_
  refine w_insert (c := s1.ctr) rfl rfl rfl rfl rfl rfl rfl rfl hK.ok hm2 ?_
  intro s3 hm3 hk3 hc3
  have hK := hK.fresh hk3 (fun g hg => by rw [List.mem_singleton.1 hg]; omega)
  refine w_val rfl rfl (op_pure rfl) ?_
  refine w_insert (c := s1.ctr) rfl rfl rfl rfl rfl rfl rfl rfl hK.ok hm3 ?_
  intro s4 hm4 hk4 hc4
  have hK := hK.fresh hk4 (fun g hg => by rw [List.mem_singleton.1 hg]; omega)
  refine w_val rfl rfl (op_pure rfl) ?_
  refine w_insert (c := s1.ctr) rfl rfl rfl rfl rfl rfl rfl rfl hK.ok hm4 ?_
  intro s5 hm5 hk5 hc5
  have hK := hK.fresh hk5 (fun g hg => by rw [List.mem_singleton.1 hg]; omega)
  refine w_val rfl rfl (op_pure rfl) ?_
  refine w_insert (c := s1.ctr) rfl rfl rfl rfl rfl rfl rfl rfl hK.ok hm5 ?_
  intro s6 hm6 hk6 hc6
  have hK := hK.fresh hk6 (fun g hg => by rw [List.mem_singleton.1 hg]; omega)
  refine w_val rfl rfl (op_pure rfl) ?_
  refine w_insert (c := s1.ctr) rfl rfl rfl rfl rfl rfl rfl rfl hK.ok hm6 ?_
  intro s7 hm7 hk7 hc7
  have hK := hK.fresh hk7 (fun g hg => by rw [List.mem_singleton.1 hg]; omega)
  refine w_val rfl rfl (op_pure rfl) ?_
  refine w_insert (c := s1.ctr) rfl rfl rfl rfl rfl rfl rfl rfl hK.ok hm7 ?_
  intro s8 hm8 hk8 hc8
  have hK := hK.fresh hk8 (fun g hg => by rw [List.mem_singleton.1 hg]; omega)
  refine w_val rfl rfl (op_pure rfl) ?_
  refine w_val rfl rfl (op_pure rfl) ?_
  refine w_nil ?_
  refine then_n ?_
  refine wc_ret ?_
  repeat first | refine then_r ?_ | refine out_r ?_ | refine round_r ?_ | refine cut_r ?_ | refine sc_r ?_
  exact ⟨_, rfl, hK, s1.ctr, rfl, by omega, hm8⟩
set_option maxRecDepth 10000 in
set_option maxHeartbeats 4000000 in
theorem turn1_ok {s : St} {y : InstrL} (hok : s.Ok) : CallS Try.prog Tt Kt 69 [.agg (inC y)] s (fun r s' => Keep [] s s' ∧ r = .agg (inC y)) := by
  refine call_of (fn := Try.f69) (nt := 4) Try.func69 rfl rfl rfl ?_
  repeat refine wc_seq ?_
  refine wc_region ?_
  refine w_box rfl rfl rfl rfl hok ?_
  intro s1 hp hk1 hc1
  have hK := (Keep.refl hok).two hk1
  have hp : Pt s1.h (.ptr s.ctr 0 0) [.int .i64 y.op, .int .i64 y.a] := hp
  refine w_alloc rfl rfl rfl rfl hK.ok ?_
  intro s2 hq hk2 hc2
  have hK := hK.two hk2
  have hp := hp.keep0 hk2
  have hq : Pt s2.h (.ptr s1.ctr 0 0) [.int .i64 0, .int .i64 0] := hq
  refine w_nil ?_
  refine then_n ?_
  repeat refine wc_seq ?_
  refine wc_region ?_
  refine w_val rfl rfl (op_load rfl rfl (by assumption) rfl) ?_
  refine w_store_all rfl rfl rfl rfl rfl (by rfl) rfl hK.ok hq (by simp [AV.gs]) ?_
  intro s3 hq hk3 hc3
  have hq : Pt s3.h (.ptr s1.ctr 0 0) (inC y) := hq
  have hK := hK.fresh hk3 (fun g hg => by rw [List.mem_singleton.1 hg]; omega)
  refine w_nil ?_
  refine then_n ?_
  refine wc_ret ?_
  repeat first | refine then_r ?_ | refine out_r ?_ | refine round_r ?_ | refine cut_r ?_ | refine sc_r ?_
  exact ⟨_, res_cell rfl rfl hq rfl, hK, rfl⟩
set_option maxRecDepth 10000 in
set_option maxHeartbeats 4000000 in
theorem turn2_ok {s : St} {mm : ModL} {y : InstrL} {p : AV} {c : Nat} (hok : s.Ok) (hpm : Pt s.h p [.mp c]) (hm : MapAt s.h c (byL mm)) (hin : In64 (y.a + moreE mm y.op)) :
    CallS Try.prog Tt Kt 70 [.agg (inC y), p] s (fun r s' => Keep [] s s' ∧ r = .agg (inC (turnI mm y))) := by
  refine call_of (fn := Try.f70) (nt := 13) Try.func70 rfl rfl rfl ?_
  repeat refine wc_seq ?_
  refine wc_region ?_
  refine w_box rfl rfl rfl rfl hok ?_
  intro s1 hp hk1 hc1
  have hK := (Keep.refl hok).two hk1
  have hp : Pt s1.h (.ptr s.ctr 0 0) [.int .i64 y.op, .int .i64 y.a] := hp
  refine w_alloc rfl rfl rfl rfl hK.ok ?_
  intro s2 hq hk2 hc2
  have hK := hK.two hk2
  have hp := hp.keep0 hk2
  have hq : Pt s2.h (.ptr s1.ctr 0 0) [.int .i64 0, .int .i64 0] := hq
  have hm := (hm.keep hk1 (by simp)).keep hk2 (by simp)
  have hpm := (hpm.keep0 hk1).keep0 hk2
  refine w_nil ?_
  refine then_n ?_
  repeat refine wc_seq ?_
  refine wc_region ?_
  refine w_val rfl rfl (op_fld rfl rfl rfl rfl (by decide) (by assumption) (Nat.le_of_ble_eq_true rfl)) ?_
  refine w_val rfl rfl (op_load rfl rfl (Pt.fld (by assumption) _ (Nat.le_of_ble_eq_true rfl)) rfl) ?_
  refine w_val rfl rfl (op_load rfl rfl (by assumption) rfl) ?_
  refine w_val rfl rfl (op_fld rfl rfl rfl rfl (by decide) (by assumption) (Nat.le_of_ble_eq_true rfl)) ?_
  refine w_val rfl rfl (op_load rfl rfl (by assumption) rfl) ?_
  refine w_val rfl rfl (op_lookup rfl rfl rfl rfl rfl hm.entries rfl (look_more mm y.op)) ?_
  refine w_val rfl rfl (op_add rfl rfl hin) ?_
  refine w_val rfl rfl (op_fld rfl rfl rfl rfl (by decide) (by assumption) (Nat.le_of_ble_eq_true rfl)) ?_
  refine w_store_fld (o := 1) rfl rfl rfl rfl rfl rfl hK.ok hp (by simp [AV.gs]) (Nat.le_of_ble_eq_true rfl) ?_
  intro s3 hp' hk3 hc3
  have hp : Pt s3.h (.ptr s.ctr 0 0) (inC (turnI mm y)) := hp'
  have hK := hK.fresh hk3 (fun g hg => by rw [List.mem_singleton.1 hg]; omega)
  have hq := hq.keep hk3 (fun g hg h => by rw [List.mem_singleton.1 hg] at h; have := List.mem_singleton.1 h; omega)
  refine w_nil ?_
  refine then_n ?_
  repeat refine wc_seq ?_
  refine wc_region ?_
  refine w_val rfl rfl (op_load rfl rfl (by assumption) rfl) ?_
  refine w_store_all rfl rfl rfl rfl rfl (by rfl) rfl hK.ok hq (by simp [AV.gs]) ?_
  intro s4 hq hk4 hc4
  have hq : Pt s4.h (.ptr s1.ctr 0 0) (inC (turnI mm y)) := hq
  have hK := hK.fresh hk4 (fun g hg => by rw [List.mem_singleton.1 hg]; omega)
  refine w_nil ?_
  refine then_n ?_
  refine wc_ret ?_
  repeat first | refine then_r ?_ | refine out_r ?_ | refine round_r ?_ | refine cut_r ?_ | refine sc_r ?_
  exact ⟨_, res_cell rfl rfl hq rfl, hK, rfl⟩
end Go.Ab
/- link.moved. -/
namespace Go.Ab
open Go.Proofs
/-- A function in memory of its own: three rows apart, in groups from a on, below b. -/
def FuncO (h : Tr Grp) (a b : Nat) (x : FuncL) (c : List AV) : Prop := ∃ vp vr vc, c = [.int .u64 x.level, vp, vr, .int .i64 x.locals, .int .i64 x.stack, vc] ∧ Row h 1 vp (x.params.map lC) ∧ Row h 1 vr (x.results.map lC) ∧ Row h 2 vc (x.code.map inC) ∧
  (∀ g ∈ vp.gs, a ≤ g ∧ g < b) ∧ (∀ g ∈ vr.gs, a ≤ g ∧ g < b) ∧ (∀ g ∈ vc.gs, a ≤ g ∧ g < b) ∧ (∀ g ∈ vp.gs, g ∉ vr.gs) ∧ (∀ g ∈ vp.gs, g ∉ vc.gs) ∧ (∀ g ∈ vr.gs, g ∉ vc.gs) ∧ (vp.gs = [] → vp = .nils) ∧ (vr.gs = [] → vr = .nils) ∧ vc.gs ≠ []
set_option maxRecDepth 10000 in
set_option maxHeartbeats 4000000 in
theorem moved_ok {s : St} {c : List AV} {x : FuncL} {gf : FuncId} {caps : List AV} {turn : InstrL → InstrL} (hok : s.Ok) (hx : x.small) (hv : FuncLR s.h x c)
    (hturn : ∀ (s' : St) (y : InstrL), y ∈ x.code → Keep [] s s' → CallS Try.prog Tt Kt gf (.agg (inC y) :: caps) s' (fun r s'' => Keep [] s' s'' ∧ r = .agg (inC (turn y)))) :
    CallS Try.prog Tt Kt 101 [.agg c, .fn gf caps] s (fun r s' => Keep [] s s' ∧ ∃ c', r = .agg c' ∧ FuncO s'.h s.ctr s'.ctr { x with code := x.code.map turn } c') := by
  have hz := (FuncLR.to x c hv).leaf.2
  obtain ⟨vp, vr, vc, rfl, hvp, hvr, hvc⟩ := hv
  obtain ⟨hx1, hx2, hx3⟩ := hx
  have hvpr := hvp.row
  have hvrr := hvr.row
  have hvcr := hvc.row
  have hvpg : vp.gs ≠ [] := by obtain ⟨u, rfl, hu, -⟩ := hvp; rw [cutA_gs]; exact hu
  have hvrg : vr.gs ≠ [] := by obtain ⟨u, rfl, hu, -⟩ := hvr; rw [cutA_gs]; exact hu
  refine call_of (fn := Try.f101) (nt := 40) Try.func101 rfl rfl rfl ?_
  repeat refine wc_seq ?_
  refine wc_region ?_
  refine w_box rfl rfl rfl hz hok ?_
  intro s1 hp hk1 hc1
  have hK := (Keep.refl hok).two hk1
  have hp : Pt s1.h (.ptr s.ctr 0 0) [.int .u64 x.level, vp, vr, .int .i64 x.locals, .int .i64 x.stack, vc] := hp
  refine w_alloc rfl rfl rfl rfl hK.ok ?_
  intro s2 hq hk2 hc2
  have hK := hK.two hk2
  have hp := hp.keep0 hk2
  have hq : Pt s2.h (.ptr s1.ctr 0 0) [.int .u64 0, .nils, .nils, .int .i64 0, .int .i64 0, .nils] := hq
  have hsc : vc.slen = some x.code.length := hvcr.slenF
  refine w_nil ?_
  refine then_n ?_
  repeat refine wc_seq ?_
  have hR := Keep.refl hK.ok
  have hK2 := hK
  refine wc_order (D := Old s2 []) (RL := [1, 5]) (A := []) (s0 := s2) (by kernel_rfl) rfl ?_
  refine wf_val (fun _ => rfl) rfl rfl (op_fld rfl rfl rfl rfl (by decide) (Pt.bare hp) (Nat.le_of_ble_eq_true rfl)) ?_
  refine wf_load hR rfl rfl (hp.fld 1 (Nat.le_of_ble_eq_true rfl)) rfl (fun _ _ h => by cases h) (by decide) rfl rfl ?_
  refine wf_call hR (by intro p hp; cases hp) rfl rfl (fun _ => rfl) (op_call rfl rfl rfl rfl) (cloneLabels_ok hR.ok (by simpa using hx1) (Row.bare ((hvpr.keep0 hK2).keep0 hR)) hvpg) (fun _ _ h => h.1) ?_
  rintro vp1 sA ⟨-, hvp1, gvp1, nvp1⟩ hkJ
  have hvp1 : Row (sA.join s2).h 1 vp1 _ := hvp1
  have huvp1 : ∀ g ∈ vp1.gs, g < (sA.join s2).ctr := hvp1.lt hkJ.ok
  have ggvp1 : ∀ g ∈ vp1.gs, s2.ctr ≤ g := gvp1
  generalize sA.join s2 = tA at hkJ hvp1 huvp1 ⊢
  have hcJtA := hkJ.ctr
  have hR := hR.two hkJ
  refine wf_call hR (by intro p hp; cases hp) rfl rfl (fun _ => rfl) (op_call rfl rfl rfl rfl) (clipLabels_ok (Row.bare hvp1) (fun e => (nvp1 e).elim)) (fun _ s' h => by rw [h.1]; exact Keep.refl hR.ok) ?_
  rintro _ sB ⟨eB, rfl⟩ hkJ
  rw [eB, show (St.bare tA).join tA = tA from rfl]
  clear eB hkJ
  refine wf_val (fun _ => rfl) rfl rfl (op_fld rfl rfl rfl rfl (by decide) (Pt.bare (hp.keep0 hR)) (Nat.le_of_ble_eq_true rfl)) ?_
  refine wf_load hR rfl rfl (hp.fld 2 (Nat.le_of_ble_eq_true rfl)) rfl (fun _ _ h => by cases h) (by decide) rfl rfl ?_
  refine wf_call hR (by intro p hp; cases hp) rfl rfl (fun _ => rfl) (op_call rfl rfl rfl rfl) (cloneLabels_ok hR.ok (by simpa using hx2) (Row.bare ((hvrr.keep0 hK2).keep0 hR)) hvrg) (fun _ _ h => h.1) ?_
  rintro vr1 sA ⟨-, hvr1, gvr1, nvr1⟩ hkJ
  have hvr1 : Row (sA.join tA).h 1 vr1 _ := hvr1
  have huvr1 : ∀ g ∈ vr1.gs, g < (sA.join tA).ctr := hvr1.lt hkJ.ok
  have ggvr1 : ∀ g ∈ vr1.gs, tA.ctr ≤ g := gvr1
  generalize sA.join tA = tB at hkJ hvr1 huvr1 ⊢
  have hcJtB := hkJ.ctr
  have hR := hR.two hkJ
  have hvp1 := hvp1.keep0 hkJ
  refine wf_call hR (by intro p hp; cases hp) rfl rfl (fun _ => rfl) (op_call rfl rfl rfl rfl) (clipLabels_ok (Row.bare hvr1) (fun e => (nvr1 e).elim)) (fun _ s' h => by rw [h.1]; exact Keep.refl hR.ok) ?_
  rintro _ sB ⟨eB, rfl⟩ hkJ
  rw [eB, show (St.bare tB).join tB = tB from rfl]
  clear eB hkJ
  have hpJ := hp.keep0 hR
  refine wf_val (fun _ => rfl) rfl rfl (op_fld rfl rfl rfl rfl (by decide) (Pt.bare hpJ) (Nat.le_of_ble_eq_true rfl)) ?_
  refine wf_store_fld (o := 1) hR.ok (by intro i hi; rcases List.mem_cons.1 hi with rfl | hi; exact .inl (by kernel_rfl); rw [List.mem_singleton.1 hi]; exact .inl (by kernel_rfl)) (by intro p hp; cases hp) rfl rfl rfl rfl (by rw [AV.cells_leaf hvp1.clip.leaf]; rfl) (by simp only [AV.cells_leaf hvp1.clip.leaf, List.all_cons, List.all_nil, hvp1.clip.leaf]; rfl) hpJ (by rw [AV.cells_leaf hvp1.clip.leaf]; exact Nat.le_of_ble_eq_true rfl) ?_
  intro tC hpJ' hkJ hcctC
  have hpJ : Pt tC.h (.ptr s.ctr 0 0) [.int .u64 x.level, clipA vp1, vr, .int .i64 x.locals, .int .i64 x.stack, vc] := by rw [AV.cells_leaf hvp1.clip.leaf] at hpJ'; exact hpJ'
  have hKC := (hK2.two hR).fresh hkJ (fun g hg => by rw [List.mem_singleton.1 hg]; exact Nat.le_refl _)
  have hvp1 := hvp1.keep hkJ (fun g hg h => by have := List.mem_singleton.1 h; have := ggvp1 g hg; omega)
  have hvr1 := hvr1.keep hkJ (fun g hg h => by have := List.mem_singleton.1 h; have := ggvr1 g hg; omega)
  have hq := (hq.keep0 hR).keep hkJ (fun g hg h => by rw [List.mem_singleton.1 hg] at h; have := List.mem_singleton.1 h; omega)
  have hR := Keep.refl hKC.ok
  refine wf_val (fun _ => rfl) rfl rfl (op_fld rfl rfl rfl rfl (by decide) (Pt.bare hpJ) (Nat.le_of_ble_eq_true rfl)) ?_
  refine wf_store_fld (o := 2) hR.ok (by intro i hi; rcases List.mem_cons.1 hi with rfl | hi; exact .inl (by kernel_rfl); rw [List.mem_singleton.1 hi]; exact .inl (by kernel_rfl)) (by intro p hp; cases hp) rfl rfl rfl rfl (by rw [AV.cells_leaf hvr1.clip.leaf]; rfl) (by simp only [AV.cells_leaf hvr1.clip.leaf, List.all_cons, List.all_nil, hvr1.clip.leaf]; rfl) hpJ (by rw [AV.cells_leaf hvr1.clip.leaf]; exact Nat.le_of_ble_eq_true rfl) ?_
  intro tD hpJ' hkJ hcctD
  have hpJ : Pt tD.h (.ptr s.ctr 0 0) [.int .u64 x.level, clipA vp1, clipA vr1, .int .i64 x.locals, .int .i64 x.stack, vc] := by rw [AV.cells_leaf hvr1.clip.leaf] at hpJ'; exact hpJ'
  have hK := hKC.fresh hkJ (fun g hg => by rw [List.mem_singleton.1 hg]; exact Nat.le_refl _)
  have hvp1 := (hvp1.keep hkJ (fun g hg h => by have := List.mem_singleton.1 h; have := ggvp1 g hg; omega)).clip
  have hvr1 := (hvr1.keep hkJ (fun g hg h => by have := List.mem_singleton.1 h; have := ggvr1 g hg; omega)).clip
  have hq := hq.keep hkJ (fun g hg h => by rw [List.mem_singleton.1 hg] at h; have := List.mem_singleton.1 h; omega)
  have hp := hpJ
  clear hpJ hpJ' hR hKC
  refine wf_nil ?_
  refine then_n ?_
  repeat refine wc_seq ?_
  refine wc_region ?_
  refine w_val rfl rfl (op_fld rfl rfl rfl rfl (by decide) (by assumption) (Nat.le_of_ble_eq_true rfl)) ?_
  refine w_val rfl rfl (op_load rfl rfl (Pt.fld (by assumption) _ (Nat.le_of_ble_eq_true rfl)) rfl) ?_
  refine w_val rfl rfl (op_len rfl rfl rfl rfl rfl (by assumption)) ?_
  refine w_make (n := x.code.length) rfl rfl rfl rfl rfl rfl rfl rfl (by decide) rfl (by simp only [maxBytes]; omega) (by omega) hK.ok ?_
  intro w sM hw hkM hcM hgw
  have hK := hK.two hkM
  have hp := hp.keep0 hkM
  have hq := hq.keep0 hkM
  have hvp1 := hvp1.keep0 hkM
  have hvr1 := hvr1.keep0 hkM
  have hcT : tD.ctr = tB.ctr := by omega
  refine w_val rfl rfl (op_pure rfl) ?_
  refine w_nil ?_
  refine then_n ?_
  repeat refine wc_seq ?_
  refine wc_region ?_
  refine w_val rfl rfl (op_fld rfl rfl rfl rfl (by decide) (by assumption) (Nat.le_of_ble_eq_true rfl)) ?_
  refine w_val rfl rfl (op_load rfl rfl (Pt.fld (by assumption) _ (Nat.le_of_ble_eq_true rfl)) rfl) ?_
  refine w_val rfl rfl (op_len rfl rfl rfl rfl rfl (by assumption)) ?_
  refine w_val rfl rfl (op_pure rfl) ?_
  refine w_nil ?_
  refine then_n ?_
  repeat refine wc_seq ?_
  refine wc_block ?_
  refine wc_loop_at (fun j m sI => ∃ (i : Nat), j = x.code.length - i ∧ i ≤ x.code.length ∧ m = [(1, .fn gf caps), (2, .ptr s.ctr 0 0), (4, .ptr s1.ctr 0 0), (5, w), (23, vc), (24, .int .i64 (x.code.length : Nat)), (25, .int .i64 (i : Nat))] ∧ Keep [] s sI ∧ sM.ctr ≤ sI.ctr ∧ Pt sI.h (.ptr s.ctr 0 0) [.int .u64 x.level, clipA vp1, clipA vr1, .int .i64 x.locals, .int .i64 x.stack, vc] ∧ Pt sI.h (.ptr s1.ctr 0 0) [.int .u64 0, .nils, .nils, .int .i64 0, .int .i64 0, .nils] ∧ Row sI.h 1 (clipA vp1) (x.params.map lC) ∧ Row sI.h 1 (clipA vr1) (x.results.map lC) ∧ Row sI.h 2 w (((x.code.take i).map turn).map inC ++ List.replicate (x.code.length - i) [.int .i64 0, .int .i64 0])) x.code.length
    [(1, .fn gf caps), (2, .ptr s.ctr 0 0), (4, .ptr s1.ctr 0 0), (5, w), (23, vc), (24, .int .i64 (x.code.length : Nat)), (25, .int .i64 ((0 : Nat) : Int))] (Sub.cons rfl (Sub.cons rfl (Sub.cons rfl (Sub.cons rfl (Sub.cons rfl (Sub.cons rfl (Sub.cons rfl (Sub.nil _)))))))) ⟨0, by simp, by simp, rfl, hK, by omega, hp, hq, hvp1, hvr1, by simpa using hw⟩ ?_
  clear hK hp hq hvp1 hvr1 hw
  rintro j m sI ⟨i, rfl, hi, rfl, hK, hcI, hp, hq, hvp1, hvr1, hw⟩
  repeat refine wc_seq ?_
  refine wc_region ?_
  refine w_val rfl rfl (op_pure rfl) ?_
  refine w_nil ?_
  refine then_n ?_
  repeat refine wc_seq ?_
  refine wc_condT rfl (fun h26 => ?_) (fun h26 => ?_)
  · simp only [decide_eq_true_eq] at h26
    refine wc_skip ?_
    refine then_n ?_
    repeat refine wc_seq ?_
    refine wc_block ?_
    repeat refine wc_seq ?_
    obtain ⟨y, hy⟩ : ∃ x', x.code[i]? = some x' := ⟨_, List.getElem?_eq_getElem (by omega)⟩
    refine wc_region ?_
    refine w_val rfl rfl (op_pure rfl) ?_
    refine w_val rfl rfl (op_idxF rfl rfl (natA_cast _ _) rfl rfl rfl rfl (Row.keep0 (by assumption) hK) (by omega)) ?_
    refine w_val rfl rfl (op_load rfl rfl (Pt.keep0 (Row.mk_pt (by assumption) (by assumption)) hK) rfl) ?_
    refine w_alloc rfl rfl rfl rfl hK.ok ?_
    intro sa hu hka hca
    have hK := hK.two hka
    have hp := hp.keep0 hka
    have hq := hq.keep0 hka
    have hvp1 := hvp1.keep0 hka
    have hvr1 := hvr1.keep0 hka
    have hw := hw.keep0 hka
    refine w_val rfl rfl (op_pure rfl) ?_
    refine w_store_all rfl rfl rfl rfl rfl (by rfl) rfl hK.ok hu (by simp [AV.gs]) ?_
    intro sb hu hkb hcb
    have hu : Pt sb.h (.ptr sI.ctr 0 0) (inC y) := hu
    have hK := hK.fresh hkb (fun g hg => by rw [List.mem_singleton.1 hg]; have := hK.ctr; omega)
    have hp := hp.keep hkb (fun g hg h => by rw [List.mem_singleton.1 hg] at h; have := List.mem_singleton.1 h; omega)
    have hq := hq.keep hkb (fun g hg h => by rw [List.mem_singleton.1 hg] at h; have := List.mem_singleton.1 h; omega)
    have hvp1 := hvp1.keep hkb (fun g hg h => by rw [clipA_gs] at hg; have e1 := List.mem_singleton.1 h; have e2 := huvp1 g hg; have e3 := ggvp1 g hg; omega)
    have hvr1 := hvr1.keep hkb (fun g hg h => by rw [clipA_gs] at hg; have e1 := List.mem_singleton.1 h; have e2 := huvr1 g hg; have e3 := ggvr1 g hg; omega)
    have hw := hw.keep hkb (fun g hg h => by rw [hgw] at hg; have e1 := List.mem_singleton.1 hg; have e2 := List.mem_singleton.1 h; omega)
    refine w_nil ?_
    refine then_n ?_
    refine wc_region ?_
    refine w_val rfl rfl (op_pure rfl) ?_
    refine w_val rfl rfl (op_pure rfl) ?_
    refine w_val rfl rfl (op_pure rfl) ?_
    refine w_val rfl rfl (op_load rfl rfl (by assumption) rfl) ?_
    refine w_call rfl rfl (op_call rfl rfl rfl rfl) (hturn _ y (List.mem_of_getElem? hy) hK) ?_
    rintro _ sC ⟨hkC, rfl⟩
    have hcC := hkC.ctr
    have hK := hK.two hkC
    have hp := hp.keep0 hkC
    have hq := hq.keep0 hkC
    have hvp1 := hvp1.keep0 hkC
    have hvr1 := hvr1.keep0 hkC
    have hw := hw.keep0 hkC
    have hli : i < (((x.code.take i).map turn).map inC ++ List.replicate (x.code.length - i) [AV.int .i64 0, AV.int .i64 0]).length := by simp; omega
    refine w_val rfl rfl (op_idx rfl rfl (natA_cast _ _) rfl rfl rfl rfl (by assumption) (by omega)) ?_
    refine w_store_row rfl rfl rfl rfl rfl rfl rfl hK.ok hw (by rw [hgw]; exact fun e => by cases e) hli ?_
    intro sD hw hkD hcD
    have hw : Row sD.h 2 w (((x.code.take (i + 1)).map turn).map inC ++ List.replicate (x.code.length - (i + 1)) [.int .i64 0, .int .i64 0]) := by
      have e : (((x.code.take i).map turn).map inC ++ List.replicate (x.code.length - i) [AV.int .i64 0, AV.int .i64 0]).set i (inC (turn y)) = ((x.code.take (i + 1)).map turn).map inC ++ List.replicate (x.code.length - (i + 1)) [AV.int .i64 0, AV.int .i64 0] := by
        have hlen : (((x.code.take i).map turn).map inC).length = i := by simp; omega
        rw [List.set_append_right (h := by omega), hlen, Nat.sub_self, ← take_snoc hy]
        rw [show x.code.length - i = (x.code.length - (i + 1)) + 1 by omega, List.replicate_succ, List.set_cons_zero]
        simp
      rw [← e]; exact hw
    rw [hgw] at hkD
    have hK := hK.fresh hkD (fun g hg => by rw [List.mem_singleton.1 hg]; omega)
    have hp := hp.keep hkD (fun g hg h => by rw [List.mem_singleton.1 hg] at h; have := List.mem_singleton.1 h; omega)
    have hq := hq.keep hkD (fun g hg h => by rw [List.mem_singleton.1 hg] at h; have := List.mem_singleton.1 h; omega)
    have hvp1 := hvp1.keep hkD (fun g hg h => by rw [clipA_gs] at hg; have e1 := List.mem_singleton.1 h; have e2 := huvp1 g hg; have e3 := ggvp1 g hg; omega)
    have hvr1 := hvr1.keep hkD (fun g hg h => by rw [clipA_gs] at hg; have e1 := List.mem_singleton.1 h; have e2 := huvr1 g hg; have e3 := ggvr1 g hg; omega)
    refine w_nil ?_
    refine out_n ?_
    refine then_n ?_
    refine wc_region ?_
    refine w_val rfl rfl (op_add rfl rfl (by unfold In64; omega)) ?_
    refine w_val rfl rfl (op_pure rfl) ?_
    refine w_nil ?_
    exact round_n _ _ (by omega) (Sub.cons rfl (Sub.cons rfl (Sub.cons rfl (Sub.cons rfl (Sub.cons rfl (Sub.cons rfl (Sub.cons rfl (Sub.nil _)))))))) ⟨i + 1, rfl, by omega, rfl, hK, by omega, hp, hq, hvp1, hvr1, hw⟩
  simp only [decide_eq_false_iff_not] at h26
  obtain rfl : i = x.code.length := by omega
  rw [List.take_length, Nat.sub_self, List.replicate_zero, List.append_nil] at hw
  refine wc_exit ?_
  repeat first | refine then_x ?_ | refine round_x ?_ | refine cut_x ?_ | refine out_x' (by decide) ?_
  refine out_x ?_
  refine then_n ?_
  repeat refine wc_seq ?_
  refine wc_region ?_
  refine w_val rfl rfl (op_pure rfl) ?_
  refine w_val rfl rfl (op_fld rfl rfl rfl rfl (by decide) (by assumption) (Nat.le_of_ble_eq_true rfl)) ?_
  refine w_store_fld (o := 5) rfl rfl rfl rfl (by rw [AV.cells_leaf hw.leaf]; rfl) (by simp only [AV.cells_leaf hw.leaf, List.all_cons, List.all_nil, hw.leaf]; rfl) hK.ok hp (by simp [AV.gs]) (by rw [AV.cells_leaf hw.leaf]; exact Nat.le_of_ble_eq_true rfl) ?_
  intro sE hp' hkE hcE
  have hK := hK.fresh hkE (fun g hg => by rw [List.mem_singleton.1 hg]; exact Nat.le_refl _)
  have hq := hq.keep hkE (fun g hg h => by rw [List.mem_singleton.1 hg] at h; have := List.mem_singleton.1 h; omega)
  have hvp1 := hvp1.keep hkE (fun g hg h => by rw [clipA_gs] at hg; have e1 := List.mem_singleton.1 h; have e2 := huvp1 g hg; have e3 := ggvp1 g hg; omega)
  have hvr1 := hvr1.keep hkE (fun g hg h => by rw [clipA_gs] at hg; have e1 := List.mem_singleton.1 h; have e2 := huvr1 g hg; have e3 := ggvr1 g hg; omega)
  have hp : Pt sE.h (.ptr s.ctr 0 0) [.int .u64 x.level, clipA vp1, clipA vr1, .int .i64 x.locals, .int .i64 x.stack, w] := by rw [AV.cells_leaf hw.leaf] at hp'; exact hp'
  have hw := hw.keep hkE (fun g hg h => by rw [hgw] at hg; have e1 := List.mem_singleton.1 hg; have e2 := List.mem_singleton.1 h; omega)
  refine w_nil ?_
  refine then_n ?_
  repeat refine wc_seq ?_
  refine wc_region ?_
  refine w_val rfl rfl (op_load rfl rfl (by assumption) rfl) ?_
  have hzf : ([.int .u64 x.level, clipA vp1, clipA vr1, .int .i64 x.locals, .int .i64 x.stack, w] : List AV).all AV.leaf = true := by
    simp only [List.all_cons, List.all_nil, hvp1.leaf, hvr1.leaf, hw.leaf]; rfl
  refine w_store_all rfl rfl rfl rfl rfl (by rfl) hzf hK.ok hq (by simp [AV.gs]) ?_
  intro sF hq' hkF hcF
  have hq' : Pt sF.h (.ptr s1.ctr 0 0) [.int .u64 x.level, clipA vp1, clipA vr1, .int .i64 x.locals, .int .i64 x.stack, w] := hq'
  have hK := hK.fresh hkF (fun g hg => by rw [List.mem_singleton.1 hg]; omega)
  have hvp1 := hvp1.keep hkF (fun g hg h => by rw [clipA_gs] at hg; have e1 := List.mem_singleton.1 h; have e2 := huvp1 g hg; have e3 := ggvp1 g hg; omega)
  have hvr1 := hvr1.keep hkF (fun g hg h => by rw [clipA_gs] at hg; have e1 := List.mem_singleton.1 h; have e2 := huvr1 g hg; have e3 := ggvr1 g hg; omega)
  have hw := hw.keep hkF (fun g hg h => by rw [hgw] at hg; have e1 := List.mem_singleton.1 hg; have e2 := List.mem_singleton.1 h; omega)
  refine w_nil ?_
  refine then_n ?_
  refine wc_ret ?_
  repeat first | refine then_r ?_ | refine out_r ?_ | refine round_r ?_ | refine cut_r ?_ | refine sc_r ?_
  exact ⟨_, res_cell rfl rfl hq' rfl, hK, _, rfl, _, _, _, rfl, hvp1, hvr1, hw, (by rw [clipA_gs]; exact fun g hg => ⟨by have := ggvp1 g hg; omega, by have := huvp1 g hg; omega⟩), (by rw [clipA_gs]; exact fun g hg => ⟨by have := ggvr1 g hg; omega, by have := huvr1 g hg; omega⟩), (fun g hg => by rw [hgw] at hg; rw [List.mem_singleton.1 hg]; omega),
    (by rw [clipA_gs, clipA_gs]; exact fun g hg h => by have := huvp1 g hg; have := ggvr1 g h; omega), (by rw [clipA_gs]; exact fun g hg h => by rw [hgw] at h; have := List.mem_singleton.1 h; have := huvp1 g hg; omega), (by rw [clipA_gs]; exact fun g hg h => by rw [hgw] at h; have := List.mem_singleton.1 h; have := huvr1 g hg; omega), fun e => by have := clipA_gs vp1; rw [e] at this; exact (nvp1 this.symm).elim, (fun e => by have := clipA_gs vr1; rw [e] at this; exact (nvr1 this.symm).elim), by rw [hgw]; exact fun e => by cases e⟩
end Go.Ab
/- link.all. -/
namespace Go.Ab
open Go.Proofs
def turnC (turn : InstrL → InstrL) (x : FuncL) : FuncL := { x with code := x.code.map turn }
/-- A function in memory of its own, with the bounds of its groups. -/
def FuncQ : RP (FuncL × Nat × Nat) := fun h F q c => ∃ vp vr vc, c = [.int .u64 q.1.level, vp, vr, .int .i64 q.1.locals, .int .i64 q.1.stack, vc] ∧ Row h 1 vp (q.1.params.map lC) ∧ Row h 1 vr (q.1.results.map lC) ∧ Row h 2 vc (q.1.code.map inC) ∧
  (∀ g ∈ vp.gs, (q.2.1 ≤ g ∧ g < q.2.2) ∧ F g) ∧ (∀ g ∈ vr.gs, (q.2.1 ≤ g ∧ g < q.2.2) ∧ F g) ∧ (∀ g ∈ vc.gs, (q.2.1 ≤ g ∧ g < q.2.2) ∧ F g) ∧ (∀ g ∈ vp.gs, g ∉ vr.gs) ∧ (∀ g ∈ vp.gs, g ∉ vc.gs) ∧ (∀ g ∈ vr.gs, g ∉ vc.gs) ∧ (vp.gs = [] → vp = .nils) ∧ (vr.gs = [] → vr = .nils) ∧ vc.gs ≠ []
theorem good_q : Good FuncQ where
  keep := fun ⟨vp, vr, vc, e, h1, h2, h3, f1, f2, f3, r⟩ h hY => ⟨vp, vr, vc, e, h1.keep h fun g hg hy => hY g hy (f1 g hg).2, h2.keep h fun g hg hy => hY g hy (f2 g hg).2, h3.keep h fun g hg hy => hY g hy (f3 g hg).2, f1, f2, f3, r⟩
  mono := fun ⟨vp, vr, vc, e, h1, h2, h3, f1, f2, f3, r⟩ h => ⟨vp, vr, vc, e, h1, h2, h3, fun g hg => ⟨(f1 g hg).1, h g (f1 g hg).2⟩, fun g hg => ⟨(f2 g hg).1, h g (f2 g hg).2⟩, fun g hg => ⟨(f3 g hg).1, h g (f3 g hg).2⟩, r⟩
theorem FuncQ.of {h : Tr Grp} {a b : Nat} {x : FuncL} {c : List AV} {F : Nat → Prop} (k : FuncO h a b x c) (hF : ∀ g, a ≤ g ∧ g < b → F g) : FuncQ h F (x, a, b) c := by
  obtain ⟨vp, vr, vc, e, h1, h2, h3, f1, f2, f3, r⟩ := k
  exact ⟨vp, vr, vc, e, h1, h2, h3, fun g hg => ⟨f1 g hg, hF g (f1 g hg)⟩, fun g hg => ⟨f2 g hg, hF g (f2 g hg)⟩, fun g hg => ⟨f3 g hg, hF g (f3 g hg)⟩, r⟩
theorem FuncO.leaf {h : Tr Grp} {a b : Nat} {x : FuncL} {c : List AV} (k : FuncO h a b x c) : c.all AV.leaf = true := by
  obtain ⟨vp, vr, vc, rfl, h1, h2, h3, -⟩ := k
  simp only [List.all_cons, List.all_nil, h1.leaf, h2.leaf, h3.leaf]; rfl
/-- Bounds behind one another. -/
structure Apart (a b : Nat) (qs : List (FuncL × Nat × Nat)) : Prop where
  pw : qs.Pairwise fun p q => p.2.2 ≤ q.2.1
  lo : ∀ q ∈ qs, a ≤ q.2.1 ∧ q.2.2 ≤ b
theorem Apart.nil (a b : Nat) : Apart a b [] := ⟨List.Pairwise.nil, fun q h => by cases h⟩
theorem Apart.snoc {a b b' c d : Nat} {qs : List (FuncL × Nat × Nat)} {x : FuncL} (h : Apart a b qs) (h1 : b ≤ c) (h2 : d ≤ b') (h3 : a ≤ c ∧ b ≤ b') : Apart a b' (qs ++ [(x, c, d)]) := by
  refine ⟨?_, fun q hq => ?_⟩
  · rw [List.pairwise_append]
    refine ⟨h.pw, List.pairwise_singleton _ _, fun p hp q hq => ?_⟩
    rw [List.mem_singleton.1 hq]
    exact Nat.le_trans (h.lo p hp).2 h1
  · rcases List.mem_append.1 hq with hq | hq
    · have := h.lo q hq; exact ⟨this.1, by omega⟩
    · rw [List.mem_singleton.1 hq]; exact ⟨h3.1, h2⟩
set_option maxRecDepth 10000 in
set_option maxHeartbeats 4000000 in
theorem all_ok {s : St} {vf : AV} {l : List FuncL} {gf : FuncId} {caps : List AV} {turn : InstrL → InstrL} (hok : s.Ok) (hl : l.length ≤ 2097152) (hsm : ∀ x ∈ l, x.small) (hv : RowR s.h 6 FuncLR vf l)
    (hturn : ∀ (s' : St) (x : FuncL) (y : InstrL), x ∈ l → y ∈ x.code → Keep [] s s' → CallS Try.prog Tt Kt gf (.agg (inC y) :: caps) s' (fun r s'' => Keep [] s' s'' ∧ r = .agg (inC (turn y)))) :
    CallS Try.prog Tt Kt 68 [vf, .fn gf caps] s (fun r s' => Keep [] s s' ∧ ∃ qs, qs.map (·.1) = l.map (turnC turn) ∧ Apart s.ctr s'.ctr qs ∧ Bld s.ctr s'.ctr s' 6 FuncQ r qs) := by
  obtain ⟨css, hrf, hlf, hF⟩ := hv
  refine call_of (fn := Try.f68) (nt := 22) Try.func68 rfl rfl rfl ?_
  repeat refine wc_seq ?_
  refine wc_region ?_
  refine w_val rfl rfl (op_pure rfl) ?_
  refine w_nil ?_
  refine then_n ?_
  repeat refine wc_seq ?_
  refine wc_region ?_
  refine w_val rfl rfl (op_pure rfl) ?_
  refine w_nil ?_
  refine then_n ?_
  repeat refine wc_seq ?_
  have hK := Keep.refl hok
  have hsf : vf.slen = some l.length := hrf.slen.trans (congrArg some hlf)
  refine wc_region ?_
  refine w_val rfl rfl (op_pure rfl) ?_
  refine w_val rfl rfl (op_len rfl rfl rfl rfl rfl (by assumption)) ?_
  refine w_val rfl rfl (op_pure rfl) ?_
  refine w_nil ?_
  refine then_n ?_
  repeat refine wc_seq ?_
  refine wc_block ?_
  refine wc_loop_at (fun j m sI => ∃ (i : Nat) (f : AV) (qs : List (FuncL × Nat × Nat)), j = l.length - i ∧ i ≤ l.length ∧ m = [(1, .fn gf caps), (5, f), (8, vf), (9, .int .i64 (l.length : Nat)), (10, .int .i64 (i : Nat))] ∧ Keep [] s sI ∧ qs.map (·.1) = (l.take i).map (turnC turn) ∧ Apart s.ctr sI.ctr qs ∧ Bld s.ctr sI.ctr sI 6 FuncQ f qs) l.length
    [(1, .fn gf caps), (5, .nils), (8, vf), (9, .int .i64 (l.length : Nat)), (10, .int .i64 ((0 : Nat) : Int))] (Sub.cons rfl (Sub.cons rfl (Sub.cons rfl (Sub.cons rfl (Sub.cons rfl (Sub.nil _)))))) ⟨0, .nils, [], by simp, by simp, rfl, hK, rfl, Apart.nil _ _, Bld.nil⟩ ?_
  clear hK
  rintro j m sI ⟨i, f, qs, rfl, hi, rfl, hK, hqs, hap, hB⟩
  have hKI := hK.ctr
  repeat refine wc_seq ?_
  refine wc_region ?_
  refine w_val rfl rfl (op_pure rfl) ?_
  refine w_nil ?_
  refine then_n ?_
  repeat refine wc_seq ?_
  refine wc_condT rfl (fun h11 => ?_) (fun h11 => ?_)
  · simp only [decide_eq_true_eq] at h11
    refine wc_skip ?_
    refine then_n ?_
    repeat refine wc_seq ?_
    refine wc_block ?_
    repeat refine wc_seq ?_
    obtain ⟨x, hx⟩ : ∃ x, l[i]? = some x := ⟨_, List.getElem?_eq_getElem (by omega)⟩
    obtain ⟨cx, hcx⟩ : ∃ c, css[i]? = some c := ⟨_, List.getElem?_eq_getElem (by omega)⟩
    have hfx := hF i x cx hx hcx
    have hsx := hsm x (List.mem_of_getElem? hx)
    have hzx := (FuncLR.to x cx hfx).leaf
    have hql : qs.length = i := by have := congrArg List.length hqs; rw [List.length_map, List.length_map, List.length_take] at this; omega
    obtain ⟨y0, y1, y2, y3, y4, y5, rfl⟩ : ∃ y0 y1 y2 y3 y4 y5, cx = [y0, y1, y2, y3, y4, y5] := by
      obtain ⟨w1, w2, w3, e, -⟩ := hfx
      exact ⟨_, _, _, _, _, _, e⟩
    refine wc_region ?_
    refine w_val rfl rfl (op_idx rfl rfl (natA_cast _ _) rfl rfl rfl rfl (Row.keep0 (by assumption) hK) (by omega)) ?_
    refine w_val rfl rfl (op_load rfl rfl (Pt.keep0 (Row.pt (by assumption) (by assumption)) hK) rfl) ?_
    refine w_alloc rfl rfl rfl rfl hK.ok ?_
    intro sa hu hka hca
    have hK := hK.two hka
    have hB := hB.keep good_q hka (fun g hg => by cases hg)
    refine w_store_all rfl rfl rfl rfl rfl (by rfl) hzx.2 hK.ok hu (by simp [AV.gs]) ?_
    intro sb hu hkb hcb
    have hu : Pt sb.h (.ptr sI.ctr 0 0) [y0, y1, y2, y3, y4, y5] := hu
    have hKc := hK.ctr
    have hK := hK.fresh hkb (fun g hg => by rw [List.mem_singleton.1 hg]; omega)
    have hB := hB.keep good_q hkb (fun g hg => by rw [List.mem_singleton.1 hg]; exact Nat.le_refl _)
    refine w_nil ?_
    refine then_n ?_
    refine wc_region ?_
    refine w_val rfl rfl (op_pure rfl) ?_
    refine w_val rfl rfl (op_load rfl rfl (by assumption) rfl) ?_
    refine w_val rfl rfl (op_pure rfl) ?_
    refine w_call rfl rfl (op_call rfl rfl rfl rfl) (moved_ok (turn := turn) hK.ok hsx (hfx.keep0 hK) (fun s' y hy hk => hturn s' x y (List.mem_of_getElem? hx) hy (hK.two hk))) ?_
    rintro _ sC ⟨hkC, cO, rfl, hO⟩
    have hcC := hkC.ctr
    have hK := hK.two hkC
    have hB := hB.keep good_q hkC (fun g hg => by cases hg)
    obtain ⟨z0, z1, z2, z3, z4, z5, rfl⟩ : ∃ y0 y1 y2 y3 y4 y5, cO = [y0, y1, y2, y3, y4, y5] := by
      obtain ⟨w1, w2, w3, e, -⟩ := hO
      exact ⟨_, _, _, _, _, _, e⟩
    have hzO : ([z0, z1, z2, z3, z4, z5] : List AV).all AV.leaf = true := hO.leaf
    refine w_lit1 (c := [z0, z1, z2, z3, z4, z5]) rfl rfl rfl rfl rfl rfl rfl (by decide) (by decide) rfl hzO rfl hK.ok ?_
    rintro bE sE hbE hkE hcE -
    have hK := hK.two hkE
    have hB := hB.keep good_q hkE (fun g hg => by cases hg)
    have hO : FuncQ sE.h (Fr s.ctr sE.ctr f.gs) (turnC turn x, sb.ctr, sC.ctr) [z0, z1, z2, z3, z4, z5] := by
      have hfg := hB.gs
      exact good_q.keep (FuncQ.of hO fun g hg => ⟨by omega, by omega, fun h => by have := (hfg g h).2; omega⟩) hkE (fun g hg => by cases hg)
    refine w_app_bld good_q (z := (turnC turn x, sb.ctr, sC.ctr)) (sz := 6) rfl rfl rfl rfl rfl rfl rfl rfl rfl (by decide) rfl hK.ok hB (by omega) (by omega) hbE hO (by simp only [maxBytes]; omega) (by simp only [maxBytes]; omega) ?_
    rintro f2 sG hB2 hkG -
    have hcG := hkG.ctr
    have hfg := hB.gs
    have hK := hK.fresh hkG (fun g hg => (hfg g hg).1)
    have hap2 : Apart s.ctr sG.ctr (qs ++ [(turnC turn x, sb.ctr, sC.ctr)]) := hap.snoc (by omega) (by omega) ⟨by omega, by omega⟩
    have hqs2 : (qs ++ [(turnC turn x, sb.ctr, sC.ctr)]).map (·.1) = (l.take (i + 1)).map (turnC turn) := by rw [List.map_append, hqs, ← take_snoc hx, List.map_append]; rfl
    refine w_val rfl rfl (op_pure rfl) ?_
    refine w_nil ?_
    refine out_n ?_
    refine then_n ?_
    refine wc_region ?_
    refine w_val rfl rfl (op_add rfl rfl (by unfold In64; omega)) ?_
    refine w_val rfl rfl (op_pure rfl) ?_
    refine w_nil ?_
    exact round_n _ _ (by omega) (Sub.cons rfl (Sub.cons rfl (Sub.cons rfl (Sub.cons rfl (Sub.cons rfl (Sub.nil _)))))) ⟨i + 1, f2, _, rfl, by omega, rfl, hK, hqs2, hap2, hB2⟩
  simp only [decide_eq_false_iff_not] at h11
  obtain rfl : i = l.length := by omega
  rw [List.take_length] at hqs
  refine wc_exit ?_
  repeat first | refine then_x ?_ | refine round_x ?_ | refine cut_x ?_ | refine out_x' (by decide) ?_
  refine out_x ?_
  refine then_n ?_
  repeat refine wc_seq ?_
  refine wc_region ?_
  refine w_val rfl rfl (op_pure rfl) ?_
  refine w_val rfl rfl (op_pure rfl) ?_
  refine w_nil ?_
  refine then_n ?_
  refine wc_ret ?_
  repeat first | refine then_r ?_ | refine out_r ?_ | refine round_r ?_ | refine cut_r ?_ | refine sc_r ?_
  exact ⟨_, rfl, hK, qs, hqs, hap, hB⟩
end Go.Ab
/- slices.Grow of nothing. -/
namespace Go.Ab
open Go.Proofs
set_option maxRecDepth 10000 in
set_option maxHeartbeats 4000000 in
theorem growLabels_ok {s : St} {n : Nat} (hok : s.Ok) (hn : n ≤ 2097152) :
    CallS Try.prog Tt Kt 102 [.nils, .int .i64 n] s (fun r s' => Keep [] s s' ∧ Row s'.h 1 r [] ∧ (r.gs = [] → r = .nils) ∧ ∀ g ∈ r.gs, s.ctr ≤ g) := by
  refine call_of (fn := Try.f102) (nt := 27) Try.func102 rfl rfl rfl ?_
  repeat refine wc_seq ?_
  refine wc_region ?_
  refine w_val rfl rfl (op_pure rfl) ?_
  refine w_nil ?_
  refine then_n ?_
  repeat refine wc_seq ?_
  refine wc_region ?_
  refine w_val rfl rfl (op_pure rfl) ?_
  refine w_val rfl rfl (op_pure rfl) ?_
  refine w_nil ?_
  refine then_n ?_
  repeat refine wc_seq ?_
  refine wc_condT rfl (fun h6 => ?_) (fun h6 => ?_)
  · simp only [decide_eq_true_eq] at h6; omega
  clear h6
  refine wc_skip ?_
  refine then_n ?_
  repeat refine wc_seq ?_
  refine wc_region ?_
  refine w_val rfl rfl (op_pure rfl) ?_
  refine w_val rfl rfl (op_pure rfl) ?_
  refine w_val rfl rfl (op_cap_nil rfl rfl rfl rfl rfl) ?_
  refine w_val rfl rfl (op_pure rfl) ?_
  refine w_val rfl rfl (op_len rfl rfl rfl rfl rfl (by rfl)) ?_
  refine w_val rfl rfl (op_sub (a := 0) (b := ((0 : Nat) : Int)) rfl rfl (by unfold In64; omega)) ?_
  refine w_val rfl rfl (op_sub (a := (n : Nat)) (b := 0 - ((0 : Nat) : Int)) rfl rfl (by unfold In64; omega)) ?_
  rw [show ((n : Nat) : Int) - (0 - ((0 : Nat) : Int)) = ((n : Nat) : Int) by omega]
  refine w_val rfl rfl (op_pure rfl) ?_
  refine w_nil ?_
  refine then_n ?_
  repeat refine wc_seq ?_
  refine wc_region ?_
  refine w_val rfl rfl (op_pure rfl) ?_
  refine w_val rfl rfl (op_pure rfl) ?_
  refine w_nil ?_
  refine then_n ?_
  repeat refine wc_seq ?_
  refine wc_condT rfl (fun h16 => ?_) (fun h16 => ?_)
  · simp only [decide_eq_true_eq, gt_iff_lt] at h16
    refine wc_region ?_
    refine w_val rfl rfl (op_pure rfl) ?_
    refine w_val rfl rfl (op_pure rfl) ?_
    refine w_val rfl rfl (op_cap_nil rfl rfl rfl rfl rfl) ?_
    refine w_val rfl rfl (op_cut (l := none) (h := some 0) (l' := 0) (h' := 0) rfl rfl (optY_some rfl rfl) rfl rfl rfl rfl (row_nils s.h 1) rfl rfl (Nat.le_refl _) (Nat.zero_le _)) ?_
    refine w_val rfl rfl (op_pure rfl) ?_
    refine w_appz (n := n) rfl rfl rfl rfl (by decide) rfl rfl rfl rfl rfl rfl rfl (by omega) (by simp only [maxBytes]; omega) (by omega) rfl (by decide) rfl hok ?_
    intro v s1 hv hk1 hc1 hgv
    refine w_val rfl rfl (op_pure rfl) ?_
    refine w_val rfl rfl (op_len rfl rfl rfl rfl rfl (by rfl)) ?_
    refine w_val rfl rfl (op_cut (l := none) (h := some 0) (l' := 0) (h' := 0) rfl rfl (optY_some rfl rfl) rfl rfl rfl rfl hv rfl rfl (Nat.le_refl _) (Nat.zero_le _)) ?_
    refine w_val rfl rfl (op_pure rfl) ?_
    refine w_nil ?_
    refine then_n ?_
    repeat refine wc_seq ?_
    refine wc_region ?_
    refine w_val rfl rfl (op_pure rfl) ?_
    refine w_val rfl rfl (op_pure rfl) ?_
    refine w_nil ?_
    refine then_n ?_
    refine wc_ret ?_
    repeat first | refine then_r ?_ | refine out_r ?_ | refine round_r ?_ | refine cut_r ?_ | refine sc_r ?_
    refine ⟨_, rfl, hk1, ?_, ?_, ?_⟩
    · show Row s1.h _ (cutA v 0 0) []
      have := hv.cut (Nat.le_refl 0) (Nat.zero_le _)
      simpa using this
    · show (cutA v 0 0).gs = [] → _
      rw [cutA_gs, hgv]; exact fun e => by cases e
    · show ∀ g ∈ (cutA v 0 0).gs, _
      rw [cutA_gs, hgv]; exact mem_none _
  simp only [decide_eq_false_iff_not, gt_iff_lt] at h16
  refine wc_skip ?_
  refine then_n ?_
  repeat refine wc_seq ?_
  refine wc_region ?_
  refine w_val rfl rfl (op_pure rfl) ?_
  refine w_val rfl rfl (op_pure rfl) ?_
  refine w_nil ?_
  refine then_n ?_
  refine wc_ret ?_
  repeat first | refine then_r ?_ | refine out_r ?_ | refine round_r ?_ | refine cut_r ?_ | refine sc_r ?_
  exact ⟨_, rfl, Keep.refl hok, row_nils _ _, fun _ => rfl, fun g hg => by cases hg⟩
set_option maxRecDepth 10000 in
set_option maxHeartbeats 4000000 in
theorem growArrays_ok {s : St} {n : Nat} (hok : s.Ok) (hn : n ≤ 2097152) :
    CallS Try.prog Tt Kt 103 [.nils, .int .i64 n] s (fun r s' => Keep [] s s' ∧ Row s'.h 2 r [] ∧ (r.gs = [] → r = .nils) ∧ ∀ g ∈ r.gs, s.ctr ≤ g) := by
  refine call_of (fn := Try.f103) (nt := 27) Try.func103 rfl rfl rfl ?_
  repeat refine wc_seq ?_
  refine wc_region ?_
  refine w_val rfl rfl (op_pure rfl) ?_
  refine w_nil ?_
  refine then_n ?_
  repeat refine wc_seq ?_
  refine wc_region ?_
  refine w_val rfl rfl (op_pure rfl) ?_
  refine w_val rfl rfl (op_pure rfl) ?_
  refine w_nil ?_
  refine then_n ?_
  repeat refine wc_seq ?_
  refine wc_condT rfl (fun h6 => ?_) (fun h6 => ?_)
  · simp only [decide_eq_true_eq] at h6; omega
  clear h6
  refine wc_skip ?_
  refine then_n ?_
  repeat refine wc_seq ?_
  refine wc_region ?_
  refine w_val rfl rfl (op_pure rfl) ?_
  refine w_val rfl rfl (op_pure rfl) ?_
  refine w_val rfl rfl (op_cap_nil rfl rfl rfl rfl rfl) ?_
  refine w_val rfl rfl (op_pure rfl) ?_
  refine w_val rfl rfl (op_len rfl rfl rfl rfl rfl (by rfl)) ?_
  refine w_val rfl rfl (op_sub (a := 0) (b := ((0 : Nat) : Int)) rfl rfl (by unfold In64; omega)) ?_
  refine w_val rfl rfl (op_sub (a := (n : Nat)) (b := 0 - ((0 : Nat) : Int)) rfl rfl (by unfold In64; omega)) ?_
  rw [show ((n : Nat) : Int) - (0 - ((0 : Nat) : Int)) = ((n : Nat) : Int) by omega]
  refine w_val rfl rfl (op_pure rfl) ?_
  refine w_nil ?_
  refine then_n ?_
  repeat refine wc_seq ?_
  refine wc_region ?_
  refine w_val rfl rfl (op_pure rfl) ?_
  refine w_val rfl rfl (op_pure rfl) ?_
  refine w_nil ?_
  refine then_n ?_
  repeat refine wc_seq ?_
  refine wc_condT rfl (fun h16 => ?_) (fun h16 => ?_)
  · simp only [decide_eq_true_eq, gt_iff_lt] at h16
    refine wc_region ?_
    refine w_val rfl rfl (op_pure rfl) ?_
    refine w_val rfl rfl (op_pure rfl) ?_
    refine w_val rfl rfl (op_cap_nil rfl rfl rfl rfl rfl) ?_
    refine w_val rfl rfl (op_cut (l := none) (h := some 0) (l' := 0) (h' := 0) rfl rfl (optY_some rfl rfl) rfl rfl rfl rfl (row_nils s.h 2) rfl rfl (Nat.le_refl _) (Nat.zero_le _)) ?_
    refine w_val rfl rfl (op_pure rfl) ?_
    refine w_appz (n := n) rfl rfl rfl rfl (by decide) rfl rfl rfl rfl rfl rfl rfl (by omega) (by simp only [maxBytes]; omega) (by omega) rfl (by decide) rfl hok ?_
    intro v s1 hv hk1 hc1 hgv
    refine w_val rfl rfl (op_pure rfl) ?_
    refine w_val rfl rfl (op_len rfl rfl rfl rfl rfl (by rfl)) ?_
    refine w_val rfl rfl (op_cut (l := none) (h := some 0) (l' := 0) (h' := 0) rfl rfl (optY_some rfl rfl) rfl rfl rfl rfl hv rfl rfl (Nat.le_refl _) (Nat.zero_le _)) ?_
    refine w_val rfl rfl (op_pure rfl) ?_
    refine w_nil ?_
    refine then_n ?_
    repeat refine wc_seq ?_
    refine wc_region ?_
    refine w_val rfl rfl (op_pure rfl) ?_
    refine w_val rfl rfl (op_pure rfl) ?_
    refine w_nil ?_
    refine then_n ?_
    refine wc_ret ?_
    repeat first | refine then_r ?_ | refine out_r ?_ | refine round_r ?_ | refine cut_r ?_ | refine sc_r ?_
    refine ⟨_, rfl, hk1, ?_, ?_, ?_⟩
    · show Row s1.h _ (cutA v 0 0) []
      have := hv.cut (Nat.le_refl 0) (Nat.zero_le _)
      simpa using this
    · show (cutA v 0 0).gs = [] → _
      rw [cutA_gs, hgv]; exact fun e => by cases e
    · show ∀ g ∈ (cutA v 0 0).gs, _
      rw [cutA_gs, hgv]; exact mem_none _
  simp only [decide_eq_false_iff_not, gt_iff_lt] at h16
  refine wc_skip ?_
  refine then_n ?_
  repeat refine wc_seq ?_
  refine wc_region ?_
  refine w_val rfl rfl (op_pure rfl) ?_
  refine w_val rfl rfl (op_pure rfl) ?_
  refine w_nil ?_
  refine then_n ?_
  refine wc_ret ?_
  repeat first | refine then_r ?_ | refine out_r ?_ | refine round_r ?_ | refine cut_r ?_ | refine sc_r ?_
  exact ⟨_, rfl, Keep.refl hok, row_nils _ _, fun _ => rfl, fun g hg => by cases hg⟩
end Go.Ab
/- slices.Concat. -/
namespace Go.Ab
open Go.Proofs
theorem flat_app' {α : Type} {data : List (AV × List α)} {i : Nat} {p : AV × List α} (h : data[i]? = some p) : (data.take (i + 1)).flatMap (·.2) = (data.take i).flatMap (·.2) ++ p.2 := by
  rw [← take_snoc h, List.flatMap_append]; simp
theorem flat_step {α : Type} {data : List (AV × List α)} {i : Nat} {p : AV × List α} (h : data[i]? = some p) : ((data.take (i + 1)).flatMap (·.2)).length = ((data.take i).flatMap (·.2)).length + p.2.length := by
  rw [flat_app' h, List.length_append]
theorem flat_le {α : Type} (data : List (AV × List α)) (i : Nat) : ((data.take i).flatMap (·.2)).length ≤ (data.flatMap (·.2)).length := by
  conv => rhs; rw [← List.take_append_drop i data, List.flatMap_append, List.length_append]
  omega
set_option maxRecDepth 10000 in
set_option maxHeartbeats 4000000 in
theorem concatLabels_ok {s : St} {v : AV} {data : List (AV × List Int)} (hok : s.Ok) (hv : Row s.h 1 v (data.map fun p => [p.1])) (hr : ∀ p ∈ data, Row s.h 1 p.1 (p.2.map lC)) (hl : (data.flatMap (·.2)).length ≤ 2097152) (hd : data.length ≤ 2097152) :
    CallS Try.prog Tt Kt 72 [v] s (fun r s' => Keep [] s s' ∧ Row s'.h 1 r ((data.flatMap (·.2)).map lC) ∧ (r.gs = [] → r = .nils) ∧ ∀ g ∈ r.gs, s.ctr ≤ g) := by
  have hsv : v.slen = some data.length := hv.slenF
  have hK := Keep.refl hok
  refine call_of (fn := Try.f72) (nt := 36) Try.func72 rfl rfl rfl ?_
  repeat refine wc_seq ?_
  refine wc_region ?_
  refine w_val rfl rfl (op_pure rfl) ?_
  refine w_nil ?_
  refine then_n ?_
  repeat refine wc_seq ?_
  refine wc_region ?_
  refine w_val rfl rfl (op_pure rfl) ?_
  refine w_nil ?_
  refine then_n ?_
  repeat refine wc_seq ?_
  refine wc_region ?_
  refine w_val rfl rfl (op_pure rfl) ?_
  refine w_val rfl rfl (op_len rfl rfl rfl rfl rfl (by assumption)) ?_
  refine w_val rfl rfl (op_pure rfl) ?_
  refine w_nil ?_
  refine then_n ?_
  repeat refine wc_seq ?_
  refine wc_block ?_
  refine wc_loop_at (fun j m s' => ∃ i : Nat, j = data.length - i ∧ i ≤ data.length ∧ s' = s ∧ m = [(0, v), (3, .int .i64 (((data.take i).flatMap (·.2)).length : Nat)), (9, v), (10, .int .i64 (data.length : Nat)), (11, .int .i64 (i : Nat))]) data.length
    [(0, v), (3, .int .i64 ((((data.take 0).flatMap (·.2)).length : Nat) : Int)), (9, v), (10, .int .i64 (data.length : Nat)), (11, .int .i64 ((0 : Nat) : Int))] (Sub.cons rfl (Sub.cons rfl (Sub.cons rfl (Sub.cons rfl (Sub.cons rfl (Sub.nil _)))))) ⟨0, by simp, by simp, rfl, rfl⟩ ?_
  rintro j m sX ⟨i, rfl, hi, eX, rfl⟩
  obtain rfl := eX.symm
  repeat refine wc_seq ?_
  refine wc_region ?_
  refine w_val rfl rfl (op_pure rfl) ?_
  refine w_nil ?_
  refine then_n ?_
  repeat refine wc_seq ?_
  refine wc_condT rfl (fun h12 => ?_) (fun h12 => ?_)
  · simp only [decide_eq_true_eq] at h12
    refine wc_skip ?_
    refine then_n ?_
    repeat refine wc_seq ?_
    refine wc_block ?_
    repeat refine wc_seq ?_
    obtain ⟨p, hp⟩ : ∃ x, data[i]? = some x := ⟨_, List.getElem?_eq_getElem (by omega)⟩
    have hrp := hr p (List.mem_of_getElem? hp)
    have hsp : p.1.slen = some p.2.length := hrp.slenF
    have hst := flat_step hp
    have hle := flat_le data (i + 1)
    refine wc_region ?_
    refine w_val rfl rfl (op_idxF rfl rfl (natA_cast _ _) rfl rfl rfl rfl (by assumption) (by omega)) ?_
    refine w_val rfl rfl (op_load rfl rfl (Row.mk_pt (by assumption) (by assumption)) rfl) ?_
    refine w_val rfl rfl (op_pure rfl) ?_
    refine w_nil ?_
    refine then_n ?_
    repeat refine wc_seq ?_
    refine wc_region ?_
    refine w_val rfl rfl (op_pure rfl) ?_
    refine w_val rfl rfl (op_pure rfl) ?_
    refine w_val rfl rfl (op_len rfl rfl rfl rfl rfl (by assumption)) ?_
    refine w_val rfl rfl (op_add rfl rfl (by unfold In64; omega)) ?_
    refine w_val rfl rfl (op_pure rfl) ?_
    refine w_nil ?_
    refine then_n ?_
    repeat refine wc_seq ?_
    refine wc_region ?_
    refine w_val rfl rfl (op_pure rfl) ?_
    refine w_val rfl rfl (op_pure rfl) ?_
    refine w_nil ?_
    refine then_n ?_
    refine wc_condT rfl (fun h20 => ?_) (fun h20 => ?_)
    · simp only [decide_eq_true_eq] at h20; omega
    clear h20
    refine wc_skip ?_
    refine out_n ?_
    refine then_n ?_
    refine wc_region ?_
    refine w_val rfl rfl (op_add rfl rfl (by unfold In64; omega)) ?_
    refine w_val rfl rfl (op_pure rfl) ?_
    refine w_nil ?_
    refine round_n _ _ ?_ (Sub.cons rfl (Sub.cons (by rw [hst]; rfl) (Sub.cons rfl (Sub.cons rfl (Sub.cons rfl (Sub.nil _)))))) ⟨i + 1, rfl, by omega, rfl, rfl⟩
    · omega
  simp only [decide_eq_false_iff_not] at h12
  obtain rfl : i = data.length := by omega
  rw [List.take_length]
  refine wc_exit ?_
  repeat first | refine then_x ?_ | refine round_x ?_ | refine cut_x ?_ | refine out_x' (by decide) ?_
  refine out_x ?_
  refine then_n ?_
  repeat refine wc_seq ?_
  refine wc_region ?_
  refine w_val rfl rfl (op_pure rfl) ?_
  refine w_call rfl rfl (op_call rfl rfl rfl rfl) (growLabels_ok hok hl) ?_
  rintro r s1 ⟨hK, hrr, nr, lr⟩
  refine w_val rfl rfl (op_pure rfl) ?_
  refine w_nil ?_
  refine then_n ?_
  repeat refine wc_seq ?_
  refine wc_region ?_
  refine w_val rfl rfl (op_pure rfl) ?_
  refine w_val rfl rfl (op_len rfl rfl rfl rfl rfl (by assumption)) ?_
  refine w_val rfl rfl (op_pure rfl) ?_
  refine w_nil ?_
  refine then_n ?_
  repeat refine wc_seq ?_
  refine wc_block ?_
  refine wc_loop_at (fun j m sI => ∃ (i : Nat) (r : AV), j = data.length - i ∧ i ≤ data.length ∧ m = [(6, r), (25, v), (26, .int .i64 (data.length : Nat)), (27, .int .i64 (i : Nat))] ∧ Keep [] s sI ∧ Row sI.h 1 r (((data.take i).flatMap (·.2)).map lC) ∧ (r.gs = [] → r = .nils) ∧ ∀ g ∈ r.gs, s.ctr ≤ g) data.length
    [(6, r), (25, v), (26, .int .i64 (data.length : Nat)), (27, .int .i64 ((0 : Nat) : Int))] (Sub.cons rfl (Sub.cons rfl (Sub.cons rfl (Sub.cons rfl (Sub.nil _))))) ⟨0, r, by simp, by simp, rfl, hK, by simpa using hrr, nr, lr⟩ ?_
  clear hK hrr nr lr
  rintro j m sI ⟨i, r, rfl, hi, rfl, hK, hrr, nr, lr⟩
  repeat refine wc_seq ?_
  refine wc_region ?_
  refine w_val rfl rfl (op_pure rfl) ?_
  refine w_nil ?_
  refine then_n ?_
  repeat refine wc_seq ?_
  refine wc_condT rfl (fun h28 => ?_) (fun h28 => ?_)
  · simp only [decide_eq_true_eq] at h28
    refine wc_skip ?_
    refine then_n ?_
    repeat refine wc_seq ?_
    refine wc_block ?_
    repeat refine wc_seq ?_
    obtain ⟨p, hp⟩ : ∃ x, data[i]? = some x := ⟨_, List.getElem?_eq_getElem (by omega)⟩
    have hrp := hr p (List.mem_of_getElem? hp)
    have hsp : p.1.slen = some p.2.length := hrp.slenF
    have hst := flat_step hp
    have hle := flat_le data (i + 1)
    refine wc_region ?_
    refine w_val rfl rfl (op_idxF rfl rfl (natA_cast _ _) rfl rfl rfl rfl (Row.keep0 (by assumption) hK) (by omega)) ?_
    refine w_val rfl rfl (op_load rfl rfl (Pt.keep0 (Row.mk_pt (by assumption) (by assumption)) hK) rfl) ?_
    refine w_val rfl rfl (op_pure rfl) ?_
    refine w_nil ?_
    refine then_n ?_
    refine wc_region ?_
    refine w_val rfl rfl (op_pure rfl) ?_
    refine w_val rfl rfl (op_pure rfl) ?_
    refine w_append rfl rfl rfl rfl rfl rfl rfl rfl rfl (by decide) hK.ok hrr nr (hrp.keep0 hK) (by simp only [List.length_map, maxBytes]; omega) (by simp only [List.length_map, maxBytes]; omega) ?_
    rintro r2 s2 hr2 hk2 - hg2 n2 -
    rw [← List.map_append] at hr2
    have hc := hK.ctr
    have l2 : ∀ g ∈ r2.gs, s.ctr ≤ g := by
      intro g hg
      rcases hg2 with e | e
      · rw [e] at hg; exact lr g hg
      · rw [e] at hg; rw [List.mem_singleton.1 hg]; exact hc
    have hK := hK.fresh hk2 lr
    have hap := flat_app' hp
    refine w_val rfl rfl (op_pure rfl) ?_
    refine w_nil ?_
    refine out_n ?_
    refine then_n ?_
    refine wc_region ?_
    refine w_val rfl rfl (op_add rfl rfl (by unfold In64; omega)) ?_
    refine w_val rfl rfl (op_pure rfl) ?_
    refine w_nil ?_
    exact round_n _ _ (by omega) (Sub.cons rfl (Sub.cons rfl (Sub.cons rfl (Sub.cons rfl (Sub.nil _))))) ⟨i + 1, r2, rfl, by omega, rfl, hK, by rw [hap]; exact hr2, n2, l2⟩
  simp only [decide_eq_false_iff_not] at h28
  obtain rfl : i = data.length := by omega
  rw [List.take_length] at hrr
  refine wc_exit ?_
  repeat first | refine then_x ?_ | refine round_x ?_ | refine cut_x ?_ | refine out_x' (by decide) ?_
  refine out_x ?_
  refine then_n ?_
  repeat refine wc_seq ?_
  refine wc_region ?_
  refine w_val rfl rfl (op_pure rfl) ?_
  refine w_val rfl rfl (op_pure rfl) ?_
  refine w_nil ?_
  refine then_n ?_
  refine wc_ret ?_
  repeat first | refine then_r ?_ | refine out_r ?_ | refine round_r ?_ | refine cut_r ?_ | refine sc_r ?_
  exact ⟨_, rfl, hK, hrr, nr, lr⟩
set_option maxRecDepth 10000 in
set_option maxHeartbeats 4000000 in
theorem concatArrays_ok {s : St} {v : AV} {data : List (AV × List ArrL)} (hok : s.Ok) (hv : Row s.h 1 v (data.map fun p => [p.1])) (hr : ∀ p ∈ data, Row s.h 2 p.1 (p.2.map aC)) (hl : (data.flatMap (·.2)).length ≤ 2097152) (hd : data.length ≤ 2097152) :
    CallS Try.prog Tt Kt 74 [v] s (fun r s' => Keep [] s s' ∧ Row s'.h 2 r ((data.flatMap (·.2)).map aC) ∧ (r.gs = [] → r = .nils) ∧ ∀ g ∈ r.gs, s.ctr ≤ g) := by
  have hsv : v.slen = some data.length := hv.slenF
  have hK := Keep.refl hok
  refine call_of (fn := Try.f74) (nt := 36) Try.func74 rfl rfl rfl ?_
  repeat refine wc_seq ?_
  refine wc_region ?_
  refine w_val rfl rfl (op_pure rfl) ?_
  refine w_nil ?_
  refine then_n ?_
  repeat refine wc_seq ?_
  refine wc_region ?_
  refine w_val rfl rfl (op_pure rfl) ?_
  refine w_nil ?_
  refine then_n ?_
  repeat refine wc_seq ?_
  refine wc_region ?_
  refine w_val rfl rfl (op_pure rfl) ?_
  refine w_val rfl rfl (op_len rfl rfl rfl rfl rfl (by assumption)) ?_
  refine w_val rfl rfl (op_pure rfl) ?_
  refine w_nil ?_
  refine then_n ?_
  repeat refine wc_seq ?_
  refine wc_block ?_
  refine wc_loop_at (fun j m s' => ∃ i : Nat, j = data.length - i ∧ i ≤ data.length ∧ s' = s ∧ m = [(0, v), (3, .int .i64 (((data.take i).flatMap (·.2)).length : Nat)), (9, v), (10, .int .i64 (data.length : Nat)), (11, .int .i64 (i : Nat))]) data.length
    [(0, v), (3, .int .i64 ((((data.take 0).flatMap (·.2)).length : Nat) : Int)), (9, v), (10, .int .i64 (data.length : Nat)), (11, .int .i64 ((0 : Nat) : Int))] (Sub.cons rfl (Sub.cons rfl (Sub.cons rfl (Sub.cons rfl (Sub.cons rfl (Sub.nil _)))))) ⟨0, by simp, by simp, rfl, rfl⟩ ?_
  rintro j m sX ⟨i, rfl, hi, eX, rfl⟩
  obtain rfl := eX.symm
  repeat refine wc_seq ?_
  refine wc_region ?_
  refine w_val rfl rfl (op_pure rfl) ?_
  refine w_nil ?_
  refine then_n ?_
  repeat refine wc_seq ?_
  refine wc_condT rfl (fun h12 => ?_) (fun h12 => ?_)
  · simp only [decide_eq_true_eq] at h12
    refine wc_skip ?_
    refine then_n ?_
    repeat refine wc_seq ?_
    refine wc_block ?_
    repeat refine wc_seq ?_
    obtain ⟨p, hp⟩ : ∃ x, data[i]? = some x := ⟨_, List.getElem?_eq_getElem (by omega)⟩
    have hrp := hr p (List.mem_of_getElem? hp)
    have hsp : p.1.slen = some p.2.length := hrp.slenF
    have hst := flat_step hp
    have hle := flat_le data (i + 1)
    refine wc_region ?_
    refine w_val rfl rfl (op_idxF rfl rfl (natA_cast _ _) rfl rfl rfl rfl (by assumption) (by omega)) ?_
    refine w_val rfl rfl (op_load rfl rfl (Row.mk_pt (by assumption) (by assumption)) rfl) ?_
    refine w_val rfl rfl (op_pure rfl) ?_
    refine w_nil ?_
    refine then_n ?_
    repeat refine wc_seq ?_
    refine wc_region ?_
    refine w_val rfl rfl (op_pure rfl) ?_
    refine w_val rfl rfl (op_pure rfl) ?_
    refine w_val rfl rfl (op_len rfl rfl rfl rfl rfl (by assumption)) ?_
    refine w_val rfl rfl (op_add rfl rfl (by unfold In64; omega)) ?_
    refine w_val rfl rfl (op_pure rfl) ?_
    refine w_nil ?_
    refine then_n ?_
    repeat refine wc_seq ?_
    refine wc_region ?_
    refine w_val rfl rfl (op_pure rfl) ?_
    refine w_val rfl rfl (op_pure rfl) ?_
    refine w_nil ?_
    refine then_n ?_
    refine wc_condT rfl (fun h20 => ?_) (fun h20 => ?_)
    · simp only [decide_eq_true_eq] at h20; omega
    clear h20
    refine wc_skip ?_
    refine out_n ?_
    refine then_n ?_
    refine wc_region ?_
    refine w_val rfl rfl (op_add rfl rfl (by unfold In64; omega)) ?_
    refine w_val rfl rfl (op_pure rfl) ?_
    refine w_nil ?_
    refine round_n _ _ ?_ (Sub.cons rfl (Sub.cons (by rw [hst]; rfl) (Sub.cons rfl (Sub.cons rfl (Sub.cons rfl (Sub.nil _)))))) ⟨i + 1, rfl, by omega, rfl, rfl⟩
    · omega
  simp only [decide_eq_false_iff_not] at h12
  obtain rfl : i = data.length := by omega
  rw [List.take_length]
  refine wc_exit ?_
  repeat first | refine then_x ?_ | refine round_x ?_ | refine cut_x ?_ | refine out_x' (by decide) ?_
  refine out_x ?_
  refine then_n ?_
  repeat refine wc_seq ?_
  refine wc_region ?_
  refine w_val rfl rfl (op_pure rfl) ?_
  refine w_call rfl rfl (op_call rfl rfl rfl rfl) (growArrays_ok hok hl) ?_
  rintro r s1 ⟨hK, hrr, nr, lr⟩
  refine w_val rfl rfl (op_pure rfl) ?_
  refine w_nil ?_
  refine then_n ?_
  repeat refine wc_seq ?_
  refine wc_region ?_
  refine w_val rfl rfl (op_pure rfl) ?_
  refine w_val rfl rfl (op_len rfl rfl rfl rfl rfl (by assumption)) ?_
  refine w_val rfl rfl (op_pure rfl) ?_
  refine w_nil ?_
  refine then_n ?_
  repeat refine wc_seq ?_
  refine wc_block ?_
  refine wc_loop_at (fun j m sI => ∃ (i : Nat) (r : AV), j = data.length - i ∧ i ≤ data.length ∧ m = [(6, r), (25, v), (26, .int .i64 (data.length : Nat)), (27, .int .i64 (i : Nat))] ∧ Keep [] s sI ∧ Row sI.h 2 r (((data.take i).flatMap (·.2)).map aC) ∧ (r.gs = [] → r = .nils) ∧ ∀ g ∈ r.gs, s.ctr ≤ g) data.length
    [(6, r), (25, v), (26, .int .i64 (data.length : Nat)), (27, .int .i64 ((0 : Nat) : Int))] (Sub.cons rfl (Sub.cons rfl (Sub.cons rfl (Sub.cons rfl (Sub.nil _))))) ⟨0, r, by simp, by simp, rfl, hK, by simpa using hrr, nr, lr⟩ ?_
  clear hK hrr nr lr
  rintro j m sI ⟨i, r, rfl, hi, rfl, hK, hrr, nr, lr⟩
  repeat refine wc_seq ?_
  refine wc_region ?_
  refine w_val rfl rfl (op_pure rfl) ?_
  refine w_nil ?_
  refine then_n ?_
  repeat refine wc_seq ?_
  refine wc_condT rfl (fun h28 => ?_) (fun h28 => ?_)
  · simp only [decide_eq_true_eq] at h28
    refine wc_skip ?_
    refine then_n ?_
    repeat refine wc_seq ?_
    refine wc_block ?_
    repeat refine wc_seq ?_
    obtain ⟨p, hp⟩ : ∃ x, data[i]? = some x := ⟨_, List.getElem?_eq_getElem (by omega)⟩
    have hrp := hr p (List.mem_of_getElem? hp)
    have hsp : p.1.slen = some p.2.length := hrp.slenF
    have hst := flat_step hp
    have hle := flat_le data (i + 1)
    refine wc_region ?_
    refine w_val rfl rfl (op_idxF rfl rfl (natA_cast _ _) rfl rfl rfl rfl (Row.keep0 (by assumption) hK) (by omega)) ?_
    refine w_val rfl rfl (op_load rfl rfl (Pt.keep0 (Row.mk_pt (by assumption) (by assumption)) hK) rfl) ?_
    refine w_val rfl rfl (op_pure rfl) ?_
    refine w_nil ?_
    refine then_n ?_
    refine wc_region ?_
    refine w_val rfl rfl (op_pure rfl) ?_
    refine w_val rfl rfl (op_pure rfl) ?_
    refine w_append rfl rfl rfl rfl rfl rfl rfl rfl rfl (by decide) hK.ok hrr nr (hrp.keep0 hK) (by simp only [List.length_map, maxBytes]; omega) (by simp only [List.length_map, maxBytes]; omega) ?_
    rintro r2 s2 hr2 hk2 - hg2 n2 -
    rw [← List.map_append] at hr2
    have hc := hK.ctr
    have l2 : ∀ g ∈ r2.gs, s.ctr ≤ g := by
      intro g hg
      rcases hg2 with e | e
      · rw [e] at hg; exact lr g hg
      · rw [e] at hg; rw [List.mem_singleton.1 hg]; exact hc
    have hK := hK.fresh hk2 lr
    have hap := flat_app' hp
    refine w_val rfl rfl (op_pure rfl) ?_
    refine w_nil ?_
    refine out_n ?_
    refine then_n ?_
    refine wc_region ?_
    refine w_val rfl rfl (op_add rfl rfl (by unfold In64; omega)) ?_
    refine w_val rfl rfl (op_pure rfl) ?_
    refine w_nil ?_
    exact round_n _ _ (by omega) (Sub.cons rfl (Sub.cons rfl (Sub.cons rfl (Sub.cons rfl (Sub.nil _))))) ⟨i + 1, r2, rfl, by omega, rfl, hK, by rw [hap]; exact hr2, n2, l2⟩
  simp only [decide_eq_false_iff_not] at h28
  obtain rfl : i = data.length := by omega
  rw [List.take_length] at hrr
  refine wc_exit ?_
  repeat first | refine then_x ?_ | refine round_x ?_ | refine cut_x ?_ | refine out_x' (by decide) ?_
  refine out_x ?_
  refine then_n ?_
  repeat refine wc_seq ?_
  refine wc_region ?_
  refine w_val rfl rfl (op_pure rfl) ?_
  refine w_val rfl rfl (op_pure rfl) ?_
  refine w_nil ?_
  refine then_n ?_
  refine wc_ret ?_
  repeat first | refine then_r ?_ | refine out_r ?_ | refine round_r ?_ | refine cut_r ?_ | refine sc_r ?_
  exact ⟨_, rfl, hK, hrr, nr, lr⟩
end Go.Ab
