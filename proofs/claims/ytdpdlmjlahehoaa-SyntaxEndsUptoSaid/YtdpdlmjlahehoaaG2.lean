/- The abstract machine against the model: what an abstract value says of a value, an abstract heap of a world. -/
import Derived.Test.YtdpdlmjlahehoaaG1
import Derived.Laws.CopyRow
import Derived.Laws.Rows
import Derived.ScopeJumps
namespace Go.Ab
open Go.RowKit

/-- Where a version of a group lies: its block, the place of its first cell, how many cells the block has. -/
abbrev Loc := Nat → Nat → Option (Nat × Nat × Nat)
def Loc.le (ρ ρ' : Loc) : Prop := ∀ g j x, ρ g j = some x → ρ' g j = some x
theorem Loc.le_refl (ρ : Loc) : ρ.le ρ := fun _ _ _ h => h
theorem Loc.le_trans {a b c : Loc} (h : a.le b) (k : b.le c) : a.le c := fun g j x hx => k g j x (h g j x hx)

/-- What an abstract value says of a value. w0: the world in which what came in is read, B0: its blocks. -/
inductive VR (w0 : World) (B0 : Nat) (ρ : Loc) : AV → Value → Prop
  | int (k : IntKind) (n : Int) : VR w0 B0 ρ (.int k n) (.int k n)
  | bool (b : Bool) : VR w0 B0 ρ (.bool b) (.bool b)
  | str (s : ByteArray) : VR w0 B0 ρ (.str s) (.string s)
  | nilp : VR w0 B0 ρ .nilp (.pointer none)
  | nils : VR w0 B0 ρ .nils (.slice none 0 0)
  | nilf : VR w0 B0 ρ .nilf .nilFunc
  | nili : VR w0 B0 ρ .nili .nilIface
  | ptr (g j off b st n : Nat) : ρ g j = some (b, st, n) → VR w0 B0 ρ (.ptr g j off) (.pointer (some ⟨b, st + off, none⟩))
  | slc (g j off sz len lo : Nat) (ex : Bool) (b st n c : Nat) (A : Addr) : ρ g j = some (b, st, n) → len ≤ lo → lo ≤ c → (ex = true → c = lo) → (c ≠ 0 → A = ⟨b, st + off, none⟩) →
      st + off + c * sz ≤ n → VR w0 B0 ρ (.slc g j off sz len lo ex) (.slice (some A) len c)
  | ro (nl : Bool) (xs : List AV) (A : Option Addr) (c : Nat) (f : Nat → Nat → Value) : xs.length ≤ c → (nl = true ↔ A = none) → (A = none → c = 0) →
      (∀ (a : Addr), A = some a → xs ≠ [] → a.spot = none ∧ a.block < B0) →
      (∀ (i : Nat) (x : AV), xs[i]? = some x → ∀ (k : Nat) (u : AV), x.cells[k]? = some u → ∀ a, A = some a → w0.cell? ⟨a.block, a.off + i * x.cells.length + k, none⟩ = some (f i k)) →
      (∀ (i : Nat) (x : AV), xs[i]? = some x → ∀ (k : Nat) (u : AV), x.cells[k]? = some u → VR w0 B0 ρ u (f i k)) → VR w0 B0 ρ (.ro nl xs) (.slice A xs.length c)
  | rop (cs : List AV) (a : Addr) (f : Nat → Value) : a.spot = none → a.block < B0 → (∀ (k : Nat) (u : AV), cs[k]? = some u → w0.cell? ⟨a.block, a.off + k, none⟩ = some (f k)) →
      (∀ (k : Nat) (u : AV), cs[k]? = some u → VR w0 B0 ρ u (f k)) → VR w0 B0 ρ (.rop cs) (.pointer (some a))
  | agg (cs : List AV) (arr : Array Value) : cs.length = arr.size → (∀ (i : Nat) (u : AV) (v : Value), cs[i]? = some u → arr[i]? = some v → VR w0 B0 ρ u v) → VR w0 B0 ρ (.agg cs) (.agg arr)
  | tup (cs : List AV) (arr : Array Value) : cs.length = arr.size → (∀ (i : Nat) (u : AV) (v : Value), cs[i]? = some u → arr[i]? = some v → VR w0 B0 ρ u v) → VR w0 B0 ρ (.tup cs) (.tuple arr)
  | fn (f : FuncId) (cs : List AV) (arr : Array Value) : cs.length = arr.size → (∀ (i : Nat) (u : AV) (v : Value), cs[i]? = some u → arr[i]? = some v → VR w0 B0 ρ u v) → VR w0 B0 ρ (.fn f cs) (.func (.func f) #[] arr)
  | iface (t : TypeId) (u : AV) (v : Value) : VR w0 B0 ρ u v → VR w0 B0 ρ (.iface t u) (.iface t v)
  | mp (g b n : Nat) : ρ g 0 = some (b, 0, n) → VR w0 B0 ρ (.mp g) (.map (some b))
  | nilm : VR w0 B0 ρ .nilm (.map none)
  | undef : VR w0 B0 ρ .undef undef
  | poison (v : Value) : v.oneCell' = true → VR w0 B0 ρ .poison v

section
variable {w0 : World} {B0 : Nat} {ρ ρ' : Loc}

theorem VR.mono (h : ρ.le ρ') {x : AV} {v : Value} (r : VR w0 B0 ρ x v) : VR w0 B0 ρ' x v := by
  induction r with
  | int k n => exact .int k n
  | bool b => exact .bool b
  | str s => exact .str s
  | nilp => exact .nilp
  | nils => exact .nils
  | nilf => exact .nilf
  | nili => exact .nili
  | ptr g j off b st n hρ => exact .ptr g j off b st n (h _ _ _ hρ)
  | slc g j off sz len lo ex b st n c A hρ h1 h2 h3 h4 h5 => exact .slc g j off sz len lo ex b st n c A (h _ _ _ hρ) h1 h2 h3 h4 h5
  | ro nl xs A c f h1 h2 h3 h4 h5 h6 ih => exact .ro nl xs A c f h1 h2 h3 h4 h5 ih
  | rop cs a f h1 h2 h3 h4 ih => exact .rop cs a f h1 h2 h3 ih
  | agg cs arr h1 h2 ih => exact .agg cs arr h1 ih
  | tup cs arr h1 h2 ih => exact .tup cs arr h1 ih
  | fn f cs arr h1 h2 ih => exact .fn f cs arr h1 ih
  | iface t u v h1 ih => exact .iface t u v ih
  | mp g b n hρ => exact .mp g b n (h _ _ _ hρ)
  | nilm => exact .nilm
  | undef => exact .undef
  | poison v h => exact .poison v h

theorem VR.leaf {x : AV} {v : Value} (r : VR w0 B0 ρ x v) (h : x.leaf = true) : v.oneCell' = true := by
  cases r <;> first | rfl | (simp [AV.leaf] at h; done) | assumption

/-- Cells, one by one. -/
def CR (w0 : World) (B0 : Nat) (ρ : Loc) (cs : List AV) (vs : List Value) : Prop := cs.length = vs.length ∧ ∀ (i : Nat) (u : AV) (v : Value), cs[i]? = some u → vs[i]? = some v → VR w0 B0 ρ u v
theorem CR.mono (h : ρ.le ρ') {cs : List AV} {vs : List Value} (r : CR w0 B0 ρ cs vs) : CR w0 B0 ρ' cs vs := ⟨r.1, fun i u v hu hv => (r.2 i u v hu hv).mono h⟩
theorem CR.nil : CR w0 B0 ρ [] [] := ⟨rfl, by simp⟩
theorem CR.cons {u : AV} {v : Value} {cs : List AV} {vs : List Value} (h : VR w0 B0 ρ u v) (r : CR w0 B0 ρ cs vs) : CR w0 B0 ρ (u :: cs) (v :: vs) := by
  refine ⟨by simp [r.1], fun i x y hx hy => ?_⟩
  cases i with
  | zero => simp at hx hy; subst hx hy; exact h
  | succ i => simp at hx hy; exact r.2 i x y hx hy
theorem CR.append {a b : List AV} {x y : List Value} (h : CR w0 B0 ρ a x) (k : CR w0 B0 ρ b y) : CR w0 B0 ρ (a ++ b) (x ++ y) := by
  refine ⟨by simp [h.1, k.1], fun i u v hu hv => ?_⟩
  by_cases hi : i < a.length
  · rw [List.getElem?_append_left hi] at hu
    rw [List.getElem?_append_left (by have := h.1; omega)] at hv
    exact h.2 i u v hu hv
  · rw [List.getElem?_append_right (by omega)] at hu
    rw [List.getElem?_append_right (by have := h.1; omega)] at hv
    rw [h.1] at hu
    exact k.2 _ u v hu hv
theorem CR.take {a : List AV} {x : List Value} (h : CR w0 B0 ρ a x) (n : Nat) : CR w0 B0 ρ (a.take n) (x.take n) := by
  refine ⟨by simp [h.1], fun i u v hu hv => ?_⟩
  rw [List.getElem?_take] at hu hv
  split at hu
  · rw [if_pos (by assumption)] at hv; exact h.2 i u v hu hv
  · cases hu
theorem CR.drop {a : List AV} {x : List Value} (h : CR w0 B0 ρ a x) (n : Nat) : CR w0 B0 ρ (a.drop n) (x.drop n) := by
  refine ⟨by simp [h.1], fun i u v hu hv => ?_⟩
  rw [List.getElem?_drop] at hu hv
  exact h.2 _ u v hu hv
theorem CR.over {a c : List AV} {x y : List Value} (h : CR w0 B0 ρ a x) (k : CR w0 B0 ρ c y) (off : Nat) : CR w0 B0 ρ (over a off c) (x.take off ++ y ++ x.drop (off + y.length)) := by
  unfold Ab.over
  rw [← k.1]
  exact ((h.take off).append k).append (h.drop _)
theorem CR.leaf {cs : List AV} {vs : List Value} (h : CR w0 B0 ρ cs vs) (hl : cs.all AV.leaf = true) : ∀ v ∈ vs, v.oneCell' = true := by
  intro v hv
  obtain ⟨i, hi⟩ := List.mem_iff_getElem?.1 hv
  have hlt : i < cs.length := by rw [h.1]; exact (List.getElem?_eq_some_iff.1 hi).1
  obtain ⟨u, hu⟩ : ∃ u, cs[i]? = some u := ⟨cs[i], by simp [hlt]⟩
  exact (h.2 i u v hu hi).leaf (List.all_eq_true.1 hl u (List.mem_of_getElem? hu))

/-- The cells of a value. -/
theorem VR.cells {x : AV} {v : Value} (r : VR w0 B0 ρ x v) : CR w0 B0 ρ x.cells v.cells.toList := by
  have one : ∀ {x : AV} {v : Value}, VR w0 B0 ρ x v → x.cells = [x] → v.cells = #[v] → CR w0 B0 ρ x.cells v.cells.toList := by
    intro x v r h1 h2
    rw [h1, h2]
    exact CR.cons r CR.nil
  cases r with
  | agg cs arr h1 h2 => exact ⟨by simpa [AV.cells, Value.cells] using h1, fun i u v hu hv => h2 i u v hu (by simpa [Value.cells] using hv)⟩
  | poison v h => exact one (.poison v h) rfl (by cases v <;> first | rfl | (simp [Value.oneCell'] at h))
  | undef => exact one .undef rfl rfl
  | int k n => exact one (.int k n) rfl rfl
  | bool b => exact one (.bool b) rfl rfl
  | str s => exact one (.str s) rfl rfl
  | nilp => exact one .nilp rfl rfl
  | nils => exact one .nils rfl rfl
  | nilf => exact one .nilf rfl rfl
  | nili => exact one .nili rfl rfl
  | ptr g j off b st n hρ => exact one (.ptr g j off b st n hρ) rfl rfl
  | slc g j off sz len lo ex b st n c A hρ h1 h2 h3 h4 h5 => exact one (.slc g j off sz len lo ex b st n c A hρ h1 h2 h3 h4 h5) rfl rfl
  | ro nl xs A c f h1 h2 h3 h4 h5 h6 => exact one (.ro nl xs A c f h1 h2 h3 h4 h5 h6) rfl rfl
  | rop cs a f h1 h2 h3 h4 => exact one (.rop cs a f h1 h2 h3 h4) rfl rfl
  | tup cs arr h1 h2 => exact one (.tup cs arr h1 h2) rfl rfl
  | fn f cs arr h1 h2 => exact one (.fn f cs arr h1 h2) rfl rfl
  | iface t u v h => exact one (.iface t u v h) rfl rfl
  | mp g b n hρ => exact one (.mp g b n hρ) rfl rfl
  | nilm => exact one .nilm rfl rfl

theorem VR.ofVal {v : Value} {x : AV} (h : Ab.ofVal v = some x) : VR w0 B0 ρ x v := by
  unfold Ab.ofVal at h
  split at h <;> (try cases h) <;> constructor
end

section

/-- A map's entries, one by one. -/
def EntR (w0 : World) (B0 : Nat) (ρ : Loc) (es : List (AV × AV)) (ents : Array MapEntry) : Prop :=
  es.length = ents.size ∧ ∀ (i : Nat) (e : AV × AV) (x : MapEntry), es[i]? = some e → ents[i]? = some x → VR w0 B0 ρ e.1 x.key ∧ VR w0 B0 ρ e.2 x.val

/-- What a version says of its block. -/
inductive VerR (w0 : World) (B0 : Nat) (ρ : Loc) (w : World) (V : Ver) (b st n : Nat) : Prop
  | arr (c : Array Value) (e : TypeId) : w.heap[b]? = some (.cells c e (0, 0)) → c.size = n → st + V.cells.length ≤ n → V.cells.all AV.leaf = true → (∀ i u v, V.cells[i]? = some u → c[st + i]? = some v → VR w0 B0 ρ u v) →
      V.mp = none → VerR w0 B0 ρ w V b st n
  | map (es : List (AV × AV)) (ents : Array MapEntry) (clock : Nat) : w.heap[b]? = some (.map ents clock) → EntR w0 B0 ρ es ents → V.mp = some es → V.cells = [] → VerR w0 B0 ρ w V b st n

/-- What the abstract heap says of a world. -/
structure Sim (w0 : World) (B0 : Nat) (ρ : Loc) (s : St) (w : World) : Prop where
  low : Below B0 w0 w
  big : B0 ≤ w.heap.size
  ver : ∀ g j b st n, ρ g j = some (b, st, n) → B0 ≤ b ∧ ∃ G V, s.get g = some G ∧ G.vers[j]? = some V ∧ VerR w0 B0 ρ w V b st n
  al : ∀ g j j' b st st' n n' G V V', ρ g j = some (b, st, n) → ρ g j' = some (b, st', n') → s.get g = some G → G.vers[j]? = some V → G.vers[j']? = some V' → st + V'.delta = st' + V.delta ∧ n = n'
  sep : ∀ g g' j j' b st st' n n', ρ g j = some (b, st, n) → ρ g' j' = some (b, st', n') → g = g'
  ctr : ∀ g j x, ρ g j = some x → g < s.ctr

/-- The temporaries fit the model's. -/
structure TR (w0 : World) (B0 : Nat) (ρ : Loc) (t : TL) (tm : Array Value) : Prop where
  n : t.n = tm.size
  at_ : ∀ i v, tm[i]? = some v → VR w0 B0 ρ (t.get i) v
  out : ∀ i, tm.size ≤ i → t.get i = .undef

theorem TR.getD {w0 : World} {B0 : Nat} {ρ : Loc} {t : TL} {tm : Array Value} (h : TR w0 B0 ρ t tm) (i : Nat) : VR w0 B0 ρ (t.get i) (tm.getD i Go.undef) := by
  by_cases hi : i < tm.size
  · refine h.at_ i _ ?_
    simp [hi]
  · rw [h.out i (by omega), Array.getD_eq_getD_getElem?, Array.getElem?_eq_none (by omega), Option.getD_none]
    exact .undef

theorem TR.congr {w0 : World} {B0 : Nat} {ρ : Loc} {t t' : TL} {tm : Array Value} (h : TR w0 B0 ρ t tm) (hn : t.n = t'.n) (hg : ∀ i, t.get i = t'.get i) : TR w0 B0 ρ t' tm := ⟨hn ▸ h.n, fun i v hv => hg i ▸ h.at_ i v hv, fun i hi => hg i ▸ h.out i hi⟩

theorem TR.eval {w0 : World} {B0 : Nat} {ρ : Loc} {t : TL} {a : Act} (h : TR w0 B0 ρ t a.tmps) {x : Operand} {u : AV} (he : ev t x = some u) : VR w0 B0 ρ u (a.eval x) := by
  cases x with
  | tmp i =>
    simp only [ev, Option.some.injEq] at he
    subst he
    exact h.getD i
  | const v => exact VR.ofVal he
  | global g => cases he
  | func f =>
    simp only [ev, Option.some.injEq] at he
    subst he
    exact .fn f [] #[] rfl (by simp)

theorem TR.evs {w0 : World} {B0 : Nat} {ρ : Loc} {t : TL} {a : Act} (h : TR w0 B0 ρ t a.tmps) : ∀ {l : List Operand} {us : List AV}, evs t l = some us → CR w0 B0 ρ us (l.map a.eval) := by
  intro l
  induction l with
  | nil => intro us he; simp only [Ab.evs, Option.some.injEq] at he; subst he; exact CR.nil
  | cons x r ih =>
    intro us he
    simp only [Ab.evs] at he
    cases h1 : ev t x with
    | none => simp [h1] at he
    | some u =>
      cases h2 : Ab.evs t r with
      | none => simp [h1, h2] at he
      | some vs =>
        simp only [h1, h2, Option.some.injEq] at he
        subst he
        exact CR.cons (h.eval h1) (ih h2)

theorem TR.put {w0 : World} {B0 : Nat} {ρ : Loc} {t : TL} {a : Act} (h : TR w0 B0 ρ t a.tmps) {u : AV} {v : Value} (r : VR w0 B0 ρ u v) (d : Option Tmp) : TR w0 B0 ρ (putA t d u) (a.put d v).tmps := by
  cases d with
  | none => exact h
  | some d =>
    simp only [putA, Act.put]
    refine ⟨by rw [TL.n_set, h.n, Array.size_setIfInBounds], fun i x hx => ?_, fun i hi => ?_⟩
    · rw [TL.get_set]
      rw [Array.getElem?_setIfInBounds] at hx
      by_cases hd : d = i
      · subst hd
        rw [if_pos rfl] at hx
        split at hx
        · cases hx
          rw [if_pos ⟨rfl, by rw [h.n]; assumption⟩]
          exact r
        · cases hx
      · rw [if_neg hd] at hx
        rw [if_neg (fun e => hd e.1.symm)]
        exact h.at_ i x hx
    · rw [Array.size_setIfInBounds] at hi
      rw [TL.get_set, if_neg (fun e => by have := h.n; omega)]
      exact h.out i hi
theorem putA_n (t : TL) (d : Option Tmp) (v : AV) : (putA t d v).n = t.n := by
  cases d with
  | none => rfl
  | some d => exact TL.n_set _ _ _
theorem TR.mono {w0 : World} {B0 : Nat} {ρ ρ' : Loc} {t : TL} {tm : Array Value} (h : ρ.le ρ') (r : TR w0 B0 ρ t tm) : TR w0 B0 ρ' t tm := ⟨r.n, fun i v hv => (r.at_ i v hv).mono h, r.out⟩
end
end Go.Ab
