/- The type table is checked by the kernel: what the rows say is what the program says. -/
import Derived.Test.YtdpdlmjlahehoaaG14
import Derived.Laws.StructEq
namespace Go.Ab
open Go.RowKit

def leafB : AV → Value → Bool
  | .int k n, .int k' m => k == k' && n == m
  | .bool a, .bool b => a == b
  | .str a, .string b => a.data == b.data
  | .nilp, .pointer none => true
  | .nils, .slice none 0 0 => true
  | .nilf, .nilFunc => true
  | .nili, .nilIface => true
  | .nilm, .map none => true
  | _, _ => false
theorem leafB_ok {u : AV} {v : Value} (h : leafB u v = true) : ofVal v = some u := by
  unfold leafB at h
  split at h
  case h_3 => simp only [beq_iff_eq] at h; simp [ofVal, ByteArray.ext h]
  all_goals simp_all [ofVal]
def zeroB : List AV → List Value → Bool
  | [], [] => true
  | u :: r, v :: r' => leafB u v && zeroB r r'
  | _, _ => false
theorem zeroB_len : ∀ {us : List AV} {vs : List Value}, zeroB us vs = true → vs.length = us.length
  | [], [], _ => rfl
  | u :: r, v :: r', h => by simp only [zeroB, Bool.and_eq_true] at h; simp [zeroB_len h.2]
  | [], _ :: _, h => by simp [zeroB] at h
  | _ :: _, [], h => by simp [zeroB] at h
theorem zeroB_get : ∀ {us : List AV} {vs : List Value}, zeroB us vs = true → ∀ (k : Nat) (u : AV) (v : Value), us[k]? = some u → vs[k]? = some v → ofVal v = some u
  | [], [], _, k, u, v, hu, _ => by simp at hu
  | u :: r, v :: r', h, k, x, y, hu, hv => by
    simp only [zeroB, Bool.and_eq_true] at h
    cases k with
    | zero => simp at hu hv; subst hu; subst hv; exact leafB_ok h.1
    | succ k => exact zeroB_get h.2 k x y (by simpa using hu) (by simpa using hv)
  | [], _ :: _, h, _, _, _, _, _ => by simp [zeroB] at h
  | _ :: _, [], h, _, _, _, _, _ => by simp [zeroB] at h

def fldsB (P : Program) : List (Nat × Nat × Bool) → List Field → Bool
  | [], [] => true
  | q :: r, f :: r' => f.offset == q.1 && (match P.info? f.type with | some ti => ti.size == q.2.1 | none => false) && (match P.underlying f.type with | some d => aggD d == q.2.2 | none => false) && fldsB P r r'
  | _, _ => false
theorem fldsB_len {P : Program} : ∀ {fs : List (Nat × Nat × Bool)} {gs : List Field}, fldsB P fs gs = true → gs.length = fs.length
  | [], [], _ => rfl
  | u :: r, v :: r', h => by simp only [fldsB, Bool.and_eq_true] at h; simp [fldsB_len h.2]
  | [], _ :: _, h => by simp [fldsB] at h
  | _ :: _, [], h => by simp [fldsB] at h
theorem fldsB_get {P : Program} : ∀ {fs : List (Nat × Nat × Bool)} {gs : List Field}, fldsB P fs gs = true → ∀ (k : Nat) (f : Field) (q : Nat × Nat × Bool), gs[k]? = some f → fs[k]? = some q →
    f.offset = q.1 ∧ (∃ ti, P.info? f.type = some ti ∧ ti.size = q.2.1) ∧ ∃ d, P.underlying f.type = some d ∧ aggD d = q.2.2
  | [], [], _, k, u, v, hu, _ => by simp at hu
  | u :: r, v :: r', h, k, x, y, hu, hv => by
    simp only [fldsB, Bool.and_eq_true] at h
    cases k with
    | zero =>
      simp at hu hv; subst hu; subst hv
      obtain ⟨⟨⟨h1, h2⟩, h3⟩, -⟩ := h
      refine ⟨by simpa using h1, ?_, ?_⟩
      · split at h2
        · exact ⟨_, ‹_›, by simpa using h2⟩
        · cases h2
      · split at h3
        · exact ⟨_, ‹_›, by simpa using h3⟩
        · cases h3
    | succ k => exact fldsB_get h.2 k x y (by simpa using hu) (by simpa using hv)
  | [], _ :: _, h, _, _, _, _, _ => by simp [fldsB] at h
  | _ :: _, [], h, _, _, _, _, _ => by simp [fldsB] at h

def shB (P : Program) (t : TypeId) (s : Sh) : Bool :=
  match s, P.underlying t with
  | .scalar, some d => !aggD d
  | .text, some .string => true
  | .boolean, some .bool => true
  | .num k, some (.int k') => k == k'
  | .map k e, some (.map k' e') => k == k' && e == e'
  | .slice e, some (.slice e') => e == e'
  | .array n e, some (.array n' e') => n == n' && e == e'
  | .struct fs, some (.struct gs) => fldsB P fs gs.toList
  | _, _ => false
theorem shB_ok {P : Program} {t : TypeId} {s : Sh} (h : shB P t s = true) : ShOk P t s := by
  unfold shB at h
  split at h
  · exact ⟨_, ‹_›, by simpa using h⟩
  · assumption
  · assumption
  · simp only [beq_iff_eq] at h; subst h; assumption
  · simp only [Bool.and_eq_true, beq_iff_eq] at h; obtain ⟨rfl, rfl⟩ := h; assumption
  · simp only [beq_iff_eq] at h; subst h; assumption
  · simp only [Bool.and_eq_true, beq_iff_eq] at h; obtain ⟨rfl, rfl⟩ := h; assumption
  · rename_i fs gs hu
    refine ⟨gs, hu, by simpa using fldsB_len h, fun k f q hf hq => fldsB_get h k f q (by simpa using hf) hq⟩
  · cases h

def flatFs (P : Program) : Nat → List AV → List Field → Bool
  | _, [], [] => true
  | k, c :: z, f :: r => f.name != "_" && f.offset == k && (match c, P.underlying f.type with | .int _ _, some (.int _) | .bool _, some .bool | .str _, some .string => true | _, _ => false) && flatFs P (k + 1) z r
  | _, _, _ => false
def flatB (P : Program) (t : TypeId) (z : List AV) : Bool :=
  !P.stoodInHeld t && !P.eqGuardType P.depth t && match P.underlying t with | some (.struct fs) => flatFs P 0 z fs.toList | _ => false

section
variable {P : Program} {w0 : World} {B0 : Nat} {ρ : Loc}
theorem run_part_cell {t : TypeId} {d : TypeDesc} (h : P.underlying t = some d) (hd : aggD d = false) {cs : Array Value} {off : Nat} {v : Value} (hv : cs[off]? = some v) (w : World) : (part t cs off).run P w = .ok v w := by
  unfold part
  simp [run_isAgg' h, hd, hv]
theorem eqf_cons' {d : Nat} {xs ys : Array Value} {f : Field} {fs : List Field} {a b : Value} {r s : Bool} {w : World} (hn : (f.name != "_") = true) (ha : (part f.type xs f.offset).run P w = .ok a w) (hb : (part f.type ys f.offset).run P w = .ok b w) (he : (Op.equalIn d f.type a b).run P w = .ok r w) (hr : (Op.eqFields d xs ys fs).run P w = .ok s w) : (Op.eqFields d xs ys (f :: fs)).run P w = .ok (r && s) w := by
  have hn' : f.name ≠ "_" := by simpa using hn
  rw [Op.eqFields]
  simp only [if_pos hn', Sem.run_bind, ha, hb, he, Result.andThen_ok]
  cases r
  · simp
  · simpa using hr
theorem flatEq_cons {c : AV} {z as bs : List AV} {q : Bool} (h : flatEq (c :: z) as bs = some q) : ∃ a b as' bs' r s, as = a :: as' ∧ bs = b :: bs' ∧ flatEq z as' bs' = some s ∧ q = (r && s) ∧
    ((∃ k0 m0 k1 x y, c = .int k0 m0 ∧ a = .int k1 x ∧ b = .int k1 y ∧ r = (x == y)) ∨ (∃ m0 x y, c = .bool m0 ∧ a = .bool x ∧ b = .bool y ∧ r = (x == y)) ∨ (∃ m0 x y, c = .str m0 ∧ a = .str x ∧ b = .str y ∧ r = (x == y))) := by
  cases as with
  | nil => cases c <;> simp [flatEq] at h
  | cons a as =>
    cases bs with
    | nil => cases c <;> cases a <;> simp [flatEq] at h
    | cons b bs =>
      refine ⟨a, b, as, bs, ?_⟩
      cases c with
      | int k0 m0 =>
        cases a with
        | int k x =>
          cases b with
          | int k' y =>
            simp only [flatEq] at h
            split at h
            · subst k'
              cases hs : flatEq z as bs with
              | none => simp [hs] at h
              | some s =>
                simp only [hs, Option.map_some, Option.some.injEq] at h
                exact ⟨_, s, rfl, rfl, rfl, h.symm, .inl ⟨_, _, _, _, _, rfl, rfl, rfl, rfl⟩⟩
            · cases h
          | _ => simp [flatEq] at h
        | _ => simp [flatEq] at h
      | bool m0 =>
        cases a with
        | bool x =>
          cases b with
          | bool y =>
            simp only [flatEq] at h
            cases hs : flatEq z as bs with
            | none => simp [hs] at h
            | some s =>
              simp only [hs, Option.map_some, Option.some.injEq] at h
              exact ⟨_, s, rfl, rfl, rfl, h.symm, .inr (.inl ⟨_, _, _, rfl, rfl, rfl, rfl⟩)⟩
          | _ => simp [flatEq] at h
        | _ => simp [flatEq] at h
      | str m0 =>
        cases a with
        | str x =>
          cases b with
          | str y =>
            simp only [flatEq] at h
            cases hs : flatEq z as bs with
            | none => simp [hs] at h
            | some s =>
              simp only [hs, Option.map_some, Option.some.injEq] at h
              exact ⟨_, s, rfl, rfl, rfl, h.symm, .inr (.inr ⟨_, _, _, rfl, rfl, rfl, rfl⟩)⟩
          | _ => simp [flatEq] at h
        | _ => simp [flatEq] at h
      | _ => simp [flatEq] at h

theorem flatFs_ok {d : Nat} {xs ys : Array Value} {w : World} : ∀ {z : List AV} {fs : List Field} {as bs : List AV} {k : Nat} {q : Bool}, flatFs P k z fs = true → flatEq z as bs = some q →
    (∀ i u v, as[i]? = some u → xs[k + i]? = some v → VR w0 B0 ρ u v) → (∀ i u v, bs[i]? = some u → ys[k + i]? = some v → VR w0 B0 ρ u v) → xs.size = k + as.length → ys.size = k + bs.length →
    (Op.eqFields (d + 1) xs ys fs).run P w = .ok q w
  | [], [], as, bs, k, q, _, h, _, _, _, _ => by
    cases as <;> cases bs <;> simp [flatEq] at h
    subst h
    simp [Op.eqFields]
  | [], _ :: _, _, _, _, _, h, _, _, _, _, _ => by simp [flatFs] at h
  | _ :: _, [], _, _, _, _, h, _, _, _, _, _ => by simp [flatFs] at h
  | c :: z, f :: fs, as, bs, k, q, hf, h, hx, hy, lx, ly => by
    simp only [flatFs, Bool.and_eq_true, beq_iff_eq] at hf
    obtain ⟨⟨⟨h1, h2⟩, h3⟩, h4⟩ := hf
    have key : ∃ a b as' bs' r s, as = a :: as' ∧ bs = b :: bs' ∧ flatEq z as' bs' = some s ∧ q = (r && s) ∧
        ∀ a' b', VR w0 B0 ρ a a' → VR w0 B0 ρ b b' → (∃ dd, P.underlying f.type = some dd ∧ aggD dd = false) ∧ (Op.equalIn (d + 1) f.type a' b').run P w = .ok r w := by
      obtain ⟨a, b, as', bs', r, s, e1, e2, e3, e4, e5⟩ := flatEq_cons h
      refine ⟨a, b, as', bs', r, s, e1, e2, e3, e4, fun a' b' ha hb => ?_⟩
      rcases e5 with ⟨k0, m0, k1, x, y, rfl, rfl, rfl, rfl⟩ | ⟨m0, x, y, rfl, rfl, rfl, rfl⟩ | ⟨m0, x, y, rfl, rfl, rfl, rfl⟩
      · cases ha; cases hb
        cases hu : P.underlying f.type with
        | none => simp [hu] at h3
        | some dd => cases dd <;> simp [hu] at h3; exact ⟨⟨_, rfl, rfl⟩, by simp [Op.equalIn, run_underlying hu]⟩
      · cases ha; cases hb
        cases hu : P.underlying f.type with
        | none => simp [hu] at h3
        | some dd => cases dd <;> simp [hu] at h3; exact ⟨⟨_, rfl, rfl⟩, by simp [Op.equalIn, run_underlying hu]⟩
      · cases ha; cases hb
        cases hu : P.underlying f.type with
        | none => simp [hu] at h3
        | some dd => cases dd <;> simp [hu] at h3; exact ⟨⟨_, rfl, rfl⟩, by simp [Op.equalIn, run_underlying hu]⟩
    obtain ⟨a, b, as', bs', r, s, rfl, rfl, hs, rfl, hk⟩ := key
    have hkx : k < xs.size := by simp at lx; omega
    have hky : k < ys.size := by simp at ly; omega
    have ex : xs[k]? = some xs[k] := by simp [hkx]
    have ey : ys[k]? = some ys[k] := by simp [hky]
    obtain ⟨⟨dd, hu, hdd⟩, he⟩ := hk _ _ (hx 0 a _ rfl ex) (hy 0 b _ rfl ey)
    subst h2
    refine eqf_cons' h1 (run_part_cell hu hdd ex w) (run_part_cell hu hdd ey w) he ?_
    refine flatFs_ok h4 hs (fun i u v hu hv => hx (i + 1) u v (by simpa using hu) (by rw [← hv]; congr 1; omega)) (fun i u v hu hv => hy (i + 1) u v (by simpa using hu) (by rw [← hv]; congr 1; omega)) ?_ ?_
    · simp at lx; omega
    · simp at ly; omega

theorem flatB_ok {t : TypeId} {z : List AV} (h : flatB P t z = true) : FlatOk P t z := by
  simp only [flatB, Bool.and_eq_true, Bool.not_eq_true'] at h
  obtain ⟨⟨h1, h2⟩, h3⟩ := h
  split at h3
  · rename_i fs hu
    intro w0 B0 ρ as bs xs ys q w x y ha hb hq
    have hf : P.fieldsOf t = fs := by simp [Program.fieldsOf, hu]
    have he : (Op.equal t (.agg xs) (.agg ys)).run P w = .ok q w := by
      unfold Op.equal
      show (Op.equalIn (9999 + 1) t (.agg xs) (.agg ys)).run P w = _
      rw [run_equalIn_struct (P := P) (w := w) 9999 t xs ys (by rw [hf]; exact hu) h1, hf]
      exact flatFs_ok (d := 9998) (w0 := w0) (B0 := B0) (ρ := ρ) (k := 0) h3 hq (fun i u v hu hv => ha.2 i u v hu (by simpa using hv)) (fun i u v hu hv => hb.2 i u v hu (by simpa using hv))
        (by have := ha.1; simp at this; omega) (by have := hb.1; simp at this; omega)
    constructor
    · simp [eqGuard, h2, binOp, he]
    · simp [eqGuard, h2, binOp, he]
  · cases h3

def tiB (P : Program) (t : TypeId) (i : TI) : Bool :=
  (match P.info? t with
    | none => false
    | some ti => ti.size == i.size && ti.bytes == i.bytes && match ti.zero with | none => false | some z => zeroB i.zero z.cells.toList && match z with | .agg _ => i.sh.isAgg | .tuple _ => false | _ => !i.sh.isAgg) &&
  shB P t i.sh && i.zero.length == i.size && (!i.flat || flatB P t i.zero)
theorem tiB_ok {t : TypeId} {i : TI} (h : tiB P t i = true) : TiOk P t i := by
  simp only [tiB, Bool.and_eq_true, beq_iff_eq, Bool.or_eq_true, Bool.not_eq_true'] at h
  obtain ⟨⟨⟨h1, h2⟩, h3⟩, h4⟩ := h
  split at h1
  · cases h1
  · rename_i ti hti
    simp only [Bool.and_eq_true, beq_iff_eq] at h1
    obtain ⟨⟨h5, h6⟩, h7⟩ := h1
    split at h7
    · cases h7
    · rename_i z hz
      simp only [Bool.and_eq_true] at h7
      obtain ⟨h7, h8⟩ := h7
      refine ⟨?_, shB_ok h2, h3, fun ti' z' hti' hz' => ?_, fun hf => flatB_ok (by rcases h4 with h | h; (rw [hf] at h; cases h); exact h)⟩
      rotate_left
      · rw [hti] at hti'
        cases hti'
        rw [hz] at hz'
        cases hz'
        split at h8
        · exact ⟨fun _ => ⟨_, rfl⟩, fun hf => by rw [hf] at h8; cases h8⟩
        · cases h8
        · rename_i n1 n2
          refine ⟨fun hf => (by rw [hf] at h8; cases h8), fun _ => ?_⟩
          cases z with
          | agg arr => exact absurd rfl (n1 arr)
          | tuple arr => exact absurd rfl (n2 arr)
          | _ => rfl
      exact ⟨ti, z, hti, h5, h6, hz, by simpa using zeroB_len h7, fun k u v hu hv => zeroB_get h7 k u v hu (by simpa using hv)⟩
end

/-- Every row of the tree. -/
def treeB (P : Program) : Tr TI → Nat → Nat → Bool
  | .leaf, _, _ => true
  | .node v l r, s, k => (match v with | some i => tiB P k i | none => true) && treeB P l (2 * s) (k + s) && treeB P r (2 * s) (k + 2 * s)
theorem treeB_ok {P : Program} : ∀ {tr : Tr TI} {s k j : Nat} {i : TI}, treeB P tr s k = true → tr.get j = some i → TiOk P (k + s * j) i
  | .leaf, _, _, _, _, _, h => by simp [Tr.get_leaf] at h
  | .node v l r, s, k, j, i, h, hg => by
    simp only [treeB, Bool.and_eq_true] at h
    obtain ⟨⟨h1, h2⟩, h3⟩ := h
    rw [Tr.get_node] at hg
    cases hj : Nat.beq j 0 with
    | true =>
      have : j = 0 := Nat.eq_of_beq_eq_true hj
      subst this
      simp only [hj, cond_true] at hg
      subst hg
      simpa using tiB_ok h1
    | false =>
      have hj0 : j ≠ 0 := fun e => by subst e; cases hj
      simp only [hj, cond_false] at hg
      cases hm : Nat.beq (j % 2) 1 with
      | true =>
        have hm' : j % 2 = 1 := Nat.eq_of_beq_eq_true hm
        simp only [hm, cond_true] at hg
        have := treeB_ok h2 hg
        have e : k + s + 2 * s * (j / 2) = k + s * j := by
          have : j = 2 * (j / 2) + 1 := by omega
          conv => rhs; rw [this]
          rw [Nat.mul_add, ← Nat.mul_assoc, Nat.mul_comm s 2]; omega
        rwa [e] at this
      | false =>
        have hm' : j % 2 = 0 := by
          have : j % 2 ≠ 1 := fun e => by rw [e] at hm; cases hm
          omega
        simp only [hm, cond_false] at hg
        have := treeB_ok h3 hg
        have e : k + 2 * s + 2 * s * (j / 2 - 1) = k + s * j := by
          have : j = 2 * (j / 2 - 1) + 2 := by omega
          conv => rhs; rw [this]
          rw [Nat.mul_add, ← Nat.mul_assoc, Nat.mul_comm s 2]; omega
        rwa [e] at this
theorem tab_ok {P : Program} {tr : Tr TI} (h : treeB P tr 1 0 = true) : TabOk P tr.get := fun t i hi => by simpa using treeB_ok h hi

def ngB (P : Program) : Bool := P.funcs.toList.all fun fn => !(fn.name == "runtime.NumGoroutine")
theorem ng_ok {P : Program} (h : ngB P = true) : NoNG P := by
  intro f fn hf
  simp only [ngB, List.all_eq_true] at h
  have := h fn (by rw [List.mem_iff_getElem?]; exact ⟨f, by simpa using hf⟩)
  simpa using this
end Go.Ab
