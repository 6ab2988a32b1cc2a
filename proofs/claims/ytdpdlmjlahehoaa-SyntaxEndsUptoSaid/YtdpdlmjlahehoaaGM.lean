/- Maps: the abstract machine's operations against the model's. -/
import Derived.Test.YtdpdlmjlahehoaaG4
import Derived.MapKept
import Derived.Carry
namespace Go.Ab
open Go.RowKit
section
variable {P : Program} {w0 : World} {B0 : Nat} {ρ : Loc} {s s' : St} {w : World} {T : Tab}
variable {a : Act} {o : Oper} {t : TL} {r : Res}

/-- A kind of keys, a key of it. -/
def KeyIs (d : TypeDesc) (vk : AV) : Prop := (∃ k n, d = .int k ∧ vk = .int k n) ∨ ∃ b, d = .string ∧ vk = .str b
theorem keyOk_sound (hT : TabOk P T) {kt : TypeId} {vk : AV} (h : keyOk T kt vk = true) : ∃ d, P.underlying kt = some d ∧ KeyIs d vk := by
  unfold keyOk at h
  split at h
  · split at h
    · rename_i hi
      simp only [beq_iff_eq] at h
      subst h
      exact ⟨_, (hT kt _ hi).sh, .inl ⟨_, _, rfl, rfl⟩⟩
    · cases h
  · split at h
    · rename_i hi
      exact ⟨_, (hT kt _ hi).sh, .inr ⟨_, rfl, rfl⟩⟩
    · cases h
  · cases h
theorem KeyIs.key {d : TypeDesc} {vk : AV} {kv : Value} (h : KeyIs d vk) (hk : VR w0 B0 ρ vk kv) : MapKept.IsKey d kv := by
  rcases h with ⟨k, n, rfl, rfl⟩ | ⟨b, rfl, rfl⟩
  · cases hk; rfl
  · cases hk; trivial
theorem keyEq_sound {d : TypeDesc} {vk ek : AV} {kv ev : Value} {q : Bool} (h : KeyIs d vk) (hk : VR w0 B0 ρ vk kv) (he : VR w0 B0 ρ ek ev) (hq : keyEq vk ek = some q) :
    Instr.sameNow d kv ev = some q ∧ (q = true → ev = kv) := by
  rcases h with ⟨k, n, rfl, rfl⟩ | ⟨b, rfl, rfl⟩
  · cases hk
    cases ek with
    | int k' m =>
      cases he
      simp only [keyEq] at hq
      split at hq
      · subst k'
        simp only [Option.some.injEq] at hq
        subst hq
        exact ⟨by simp [Instr.sameNow], fun h => by simp at h; rw [h]⟩
      · cases hq
    | _ => simp [keyEq] at hq
  · cases hk
    cases ek with
    | str b' =>
      cases he
      simp only [keyEq, Option.some.injEq] at hq
      subst hq
      exact ⟨by simp [Instr.sameNow], fun h => by rw [MapKept.bytes_beq] at h; rw [h]⟩
    | _ => simp [keyEq] at hq
theorem mpFind_sound {d : TypeDesc} {vk : AV} {kv : Value} (h : KeyIs d vk) (hk : VR w0 B0 ρ vk kv) : ∀ (es : List (AV × AV)) (l : List MapEntry) (i : Nat) (r : Option (Nat × AV)), es.length = l.length →
    (∀ (j : Nat) (e : AV × AV) (x : MapEntry), es[j]? = some e → l[j]? = some x → VR w0 B0 ρ e.1 x.key ∧ VR w0 B0 ρ e.2 x.val) → mpFind vk es i = some r →
    (r = none → Instr.findNow d kv l i = some none) ∧ ∀ j v, r = some (j, v) → ∃ n x, j = i + n ∧ Instr.findNow d kv l i = some (some (j, x.val)) ∧ l[n]? = some x ∧ VR w0 B0 ρ v x.val ∧ x.key = kv
  | [], [], i, r, _, _, hr => by
    simp only [mpFind, Option.some.injEq] at hr
    subst hr
    exact ⟨fun _ => rfl, fun j v h => by cases h⟩
  | [], _ :: _, _, _, hl, _, _ => by simp at hl
  | _ :: _, [], _, _, hl, _, _ => by simp at hl
  | e :: es, x :: l, i, r, hl, hR, hr => by
    have h0 := hR 0 e x rfl rfl
    simp only [mpFind] at hr
    split at hr
    · rename_i hq
      simp only [Option.some.injEq] at hr
      subst hr
      have hs := keyEq_sound h hk h0.1 hq
      refine ⟨fun h => (by cases h), fun j v hj => ?_⟩
      cases hj
      exact ⟨0, x, rfl, by simp [Instr.findNow, hs.1], rfl, h0.2, hs.2 rfl⟩
    · rename_i hq
      have hs := keyEq_sound h hk h0.1 hq
      obtain ⟨k1, k2⟩ := mpFind_sound h hk es l (i + 1) r (by simpa using hl) (fun j e x he hx => hR (j + 1) e x (by simpa using he) (by simpa using hx)) hr
      refine ⟨fun hn => by simp only [Instr.findNow, hs.1]; exact k1 hn, fun j v hj => ?_⟩
      obtain ⟨n, y, h1, h2, h3, h4, h5⟩ := k2 j v hj
      exact ⟨n + 1, y, by omega, by simp only [Instr.findNow, hs.1]; exact h2, by simpa using h3, h4, h5⟩
    · cases hr

/-- A new map. -/
theorem Sim.new_map (hs : Sim w0 B0 ρ s w) : ∃ ρ', ρ.lex s.ctr ρ' ∧ ρ' s.ctr 0 = some (w.heap.size, 0, 0) ∧ Sim w0 B0 ρ' (s.newG ⟨[⟨[], 0, some []⟩]⟩) (w.alloc (.map #[] 0)) := by
  have hf := hs.fresh
  have hle : ρ.le (ρ.put s.ctr 0 (w.heap.size, 0, 0)) := Loc.put_le (hf 0)
  refine ⟨_, Loc.put_lex (hf 0) (.inl (Nat.le_refl _)), Loc.put_eq, ⟨hs.low.alloc hs.big _, by have := hs.big; show B0 ≤ (w.heap.push _).size; rw [Array.size_push]; omega, ?_, ?_, ?_, ?_⟩⟩
  · intro g j b st n hp
    rcases Loc.put_inv hp with ⟨rfl, rfl, hx⟩ | hp
    · cases hx
      exact ⟨hs.big, _, _, St.get_newG_eq _ _, rfl, .map [] #[] 0 (heap_alloc_new _ _) ⟨rfl, fun i e x he => by simp at he⟩ rfl rfl⟩
    · obtain ⟨q1, G, V, q2, q3, q4⟩ := hs.ver g j b st n hp
      exact ⟨q1, G, V, by rw [St.get_newG_ne _ _ (by have := hs.ctr _ _ _ hp; omega)]; exact q2, q3, q4.mono hle (Below.heap_alloc _ _ _ (hs.blk_lt hp))⟩
  · intro g j1 j2 b st st' n n' G V V' h1 h2 h3 h4 h5
    rcases Loc.put_inv h1 with ⟨rfl, rfl, hx⟩ | h1' <;> rcases Loc.put_inv h2 with ⟨h2a, rfl, hy⟩ | h2'
    · cases hx; cases hy
      rw [h4] at h5; cases h5
      exact ⟨rfl, rfl⟩
    · rw [hf] at h2'; cases h2'
    · subst h2a; rw [hf] at h1'; cases h1'
    · rw [St.get_newG_ne _ _ (by have := hs.ctr _ _ _ h1'; omega)] at h3
      exact hs.al _ _ _ _ _ _ _ _ _ _ _ h1' h2' h3 h4 h5
  · intro g1 g2 j1 j2 b st st' n n' h1 h2
    rcases Loc.put_inv h1 with ⟨rfl, rfl, hx⟩ | h1' <;> rcases Loc.put_inv h2 with ⟨rfl, rfl, hy⟩ | h2'
    · rfl
    · cases hx; exact absurd (hs.blk_lt h2') (by omega)
    · cases hy; exact absurd (hs.blk_lt h1') (by omega)
    · exact hs.sep _ _ _ _ _ _ _ _ _ h1' h2'
  · intro g j x hp
    rcases Loc.put_inv hp with ⟨rfl, _, _⟩ | hp
    · simp [St.newG]
    · have := hs.ctr _ _ _ hp; simp [St.newG]; omega

/-- The map that a reference leads to. -/
theorem Sim.entries (hs : Sim w0 B0 ρ s w) {g b n : Nat} {es : List (AV × AV)} (hρ : ρ g 0 = some (b, 0, n)) (h : s.entries (.mp g) = some es) :
    ∃ ents clock V, B0 ≤ b ∧ s.get g = some ⟨[V]⟩ ∧ w.heap[b]? = some (.map ents clock) ∧ EntR w0 B0 ρ es ents := by
  simp only [St.entries] at h
  split at h
  · rename_i V hG
    obtain ⟨q1, G, V', q2, q3, q4⟩ := hs.ver g 0 b 0 n hρ
    rw [hG] at q2
    cases q2
    simp at q3
    subst q3
    cases q4 with
    | arr c e h1 h2 h3 h4 h5 h6 => rw [h6] at h; cases h
    | map es' ents clock h1 h2 h3 h4 =>
      rw [h] at h3
      cases h3
      exact ⟨ents, clock, V, q1, hG, h1, h2⟩
  · cases h
/-- A map written. -/
theorem Sim.put_map (hs : Sim w0 B0 ρ s w) {g b n : Nat} {V : Ver} {es : List (AV × AV)} {ents ents0 : Array MapEntry} {clock clock0 : Nat} (hρ : ρ g 0 = some (b, 0, n)) (hG : s.get g = some ⟨[V]⟩) (hb : w.heap[b]? = some (.map ents0 clock0)) (he : EntR w0 B0 ρ es ents) :
    Sim w0 B0 ρ (s.setG g ⟨[⟨[], 0, some es⟩]⟩) { w with heap := w.heap.setIfInBounds b (.map ents clock) } := by
  have hB := (hs.ver g 0 b 0 n hρ).1
  have h0 : ∀ {j x}, ρ g j = some x → j = 0 := by
    intro j x hx
    obtain ⟨b, st, n⟩ := x
    obtain ⟨_, G1, V1, hG1, hV1, _⟩ := hs.ver g j b st n hx
    rw [hG] at hG1
    cases hG1
    have := (List.getElem?_eq_some_iff.1 hV1).1
    simpa using this
  have hother : ∀ k, k ≠ b → (w.heap.setIfInBounds b (.map ents clock))[k]? = w.heap[k]? := (MapKept.heap_set hb).2
  refine ⟨hs.low.trans ⟨rfl, rfl, rfl, by simp, fun k hk => hother k (by omega)⟩, by simpa using hs.big, ?_, ?_, hs.sep, hs.ctr⟩
  · intro g' j b' st n' hp
    by_cases hg : g' = g
    · subst hg
      obtain rfl := h0 hp
      rw [hρ] at hp
      cases hp
      exact ⟨hB, _, _, St.get_setG_eq _ _ _, rfl, .map es ents clock (MapKept.heap_set hb).1 he rfl rfl⟩
    · obtain ⟨q1, G, U, q2, q3, q4⟩ := hs.ver g' j b' st n' hp
      refine ⟨q1, G, U, by rw [St.get_setG_ne _ _ _ hg]; exact q2, q3, q4.mono (Loc.le_refl _) (hother b' fun hbb => ?_)⟩
      subst hbb
      exact hg (hs.sep _ _ _ _ _ _ _ _ _ hp hρ)
  · intro g1 j1 j2 b1 st st' n1 n2 G U U' h1 h2 h3 h4 h5
    by_cases hg : g1 = g
    · subst hg
      obtain rfl := h0 h1
      obtain rfl := h0 h2
      rw [h1] at h2
      cases h2
      rw [h4] at h5
      cases h5
      exact ⟨rfl, rfl⟩
    · rw [St.get_setG_ne _ _ _ hg] at h3
      exact hs.al _ _ _ _ _ _ _ _ _ _ _ h1 h2 h3 h4 h5

theorem s_makeMap (hs : Sim w0 B0 ρ s w) {tt : TypeId} {x : Option Operand} (ho : o.op = .makeMap tt x) (h : evOp T o.op t s = some (r, s')) : OpS P w0 B0 ρ s.ctr a o s' w r := by
  rw [ho] at h
  cases x with
  | some x => simp [evOp] at h
  | none =>
    simp only [evOp] at h
    split at h
    · simp only [Option.some.injEq, Prod.mk.injEq] at h
      obtain ⟨rfl, rfl⟩ := h
      obtain ⟨ρ', h1, h2, h3⟩ := hs.new_map
      refine .val _ _ _ ρ' ?_ h1 h3 (.mp _ w.heap.size 0 h2)
      simp only [execOp, ho, Sem.run_bind, Option.map_none, run_makeMap, Result.andThen_ok, Sem.run_pure]
    · cases h

theorem s_insert (hT : TabOk P T) (ht : TR w0 B0 ρ t a.tmps) (hs : Sim w0 B0 ρ s w) {tt : TypeId} {m k x : Operand} (ho : o.op = .insert tt m k x ∨ o.op = .mapUpdate tt m k x) (h : evOp T o.op t s = some (r, s')) : OpS P w0 B0 ρ s.ctr a o s' w r := by
  have h' : evOp T (.insert tt m k x) t s = some (r, s') := by rcases ho with ho | ho <;> (rw [ho] at h; exact h)
  clear h
  have hrun : ∀ {mv kv xv : Value} {w' : World}, a.eval m = mv → a.eval k = kv → a.eval x = xv → (Instr.mapUpdate tt mv kv xv).run P w = .ok () w' → (execOp a.eval o).run P w = .ok .skip w' := by
    intro mv kv xv w' h1 h2 h3 h4
    rcases ho with ho | ho <;> simp only [execOp, ho, h1, h2, h3, Sem.run_bind, h4, Result.andThen_ok, Sem.run_pure]
  simp only [evOp] at h'
  split at h'
  · rename_i kt _ _ _ _ _ hti
    have hm : P.underlying tt = some (.map kt _) := (hT tt _ hti).sh
    split at h'
    · rename_i g vk vx hem hek hex
      split at h'
      · rename_i es hes hko
        obtain ⟨d, hd, hki⟩ := keyOk_sound hT hko
        have rm := ht.eval hem
        have rk := ht.eval hek
        have rx := ht.eval hex
        generalize hmv : a.eval m = mv at rm
        cases rm with
        | mp _ b n hρ =>
        obtain ⟨ents, clock, V, q1, hG, hb, hE⟩ := hs.entries hρ hes
        have hik := hki.key rk
        split at h'
        · rename_i hf
          simp only [Option.some.injEq, Prod.mk.injEq] at h'
          obtain ⟨rfl, rfl⟩ := h'
          have h1 := (mpFind_sound hki rk es ents.toList 0 none (by simpa using hE.1) (fun j e y he hy => hE.2 j e y he (by simpa using hy)) hf).1 rfl
          refine .skip _ (hrun (w' := { w with heap := w.heap.setIfInBounds b (.map (ents.push { key := a.eval k, val := a.eval x, born := clock }) (clock + 1)) }) hmv rfl rfl ?_) (hs.put_map hρ hG hb ⟨by simp [hE.1], fun i e y he hy => ?_⟩)
          · simp [Instr.mapUpdate, run_underlying hm, MapKept.run_getObj_map hb, MapKept.run_checkKey hd hik, MapKept.run_findKey hd h1, MapKept.run_setObj_map _ hb, Result.andThen]
          · rw [Array.getElem?_push] at hy
            rw [List.getElem?_append] at he
            have hl := hE.1
            split at he
            · rw [if_neg (by omega)] at hy
              exact hE.2 i e y he hy
            · rename_i hlt
              by_cases hi : i = ents.size
              · rw [if_pos hi] at hy
                cases hy
                have : i - es.length = 0 := by omega
                rw [this] at he
                cases he
                exact ⟨rk, rx⟩
              · have hn : i - es.length ≠ 0 := by omega
                obtain ⟨c, hc⟩ := Nat.exists_eq_succ_of_ne_zero hn
                rw [hc] at he
                simp at he
        · rename_i i v hf
          simp only [Option.some.injEq, Prod.mk.injEq] at h'
          obtain ⟨rfl, rfl⟩ := h'
          obtain ⟨n', y, h0, h1, h2, h3, h4⟩ := (mpFind_sound hki rk es ents.toList 0 _ (by simpa using hE.1) (fun j e y he hy => hE.2 j e y he (by simpa using hy)) hf).2 i v rfl
          obtain rfl : i = n' := by omega
          have hj : ents[i]? = some y := by simpa using h2
          refine .skip _ (hrun (w' := { w with heap := w.heap.setIfInBounds b (.map (ents.modify i fun e => { e with key := a.eval k, val := a.eval x }) clock) }) hmv rfl rfl ?_) (hs.put_map hρ hG hb ⟨by simp [hE.1], fun i' e z he hz => ?_⟩)
          · simp [Instr.mapUpdate, run_underlying hm, MapKept.run_getObj_map hb, MapKept.run_checkKey hd hik, MapKept.run_findKey hd h1, hj, h4, MapKept.run_keyThatStays hik, MapKept.run_setObj_map _ hb, Result.andThen]
          · rw [Array.getElem?_modify] at hz
            rw [List.getElem?_set] at he
            by_cases hii : i = i'
            · subst hii
              rw [if_pos rfl] at he hz
              rw [hj] at hz
              cases hz
              split at he
              · cases he
                exact ⟨rk, rx⟩
              · cases he
            · rw [if_neg hii] at he hz
              exact hE.2 i' e z he hz
        · cases h'
      · cases h'
    · cases h'
  · cases h'

/-- A new variable's value, whole. -/
theorem TiOk.zeroVR {tt : TypeId} {i : TI} (h : TiOk P tt i) {v : AV} (hv : ofCells i.sh.isAgg i.zero = some v) : ∃ ti z, P.info? tt = some ti ∧ ti.zero = some z ∧ ∀ w0 B0 ρ, VR w0 B0 ρ v z := by
  obtain ⟨ti, z, h1, h2, h3, h4, h5⟩ := h.zeroCR
  obtain ⟨k1, k2⟩ := h.za ti z h1 h4
  refine ⟨ti, z, h1, h4, fun w0 B0 ρ => ?_⟩
  have hc := h5 w0 B0 ρ
  unfold ofCells at hv
  cases ha : i.sh.isAgg with
  | true =>
    obtain ⟨arr, rfl⟩ := k1 ha
    rw [ha] at hv
    simp only [if_true, Option.some.injEq] at hv
    subst hv
    have hc' := hc.arr
    exact .agg _ _ (by have := hc.1; simpa [Value.cells] using this) (fun i u v hu hv => hc.2 i u v hu (by simpa [Value.cells] using hv))
  | false =>
    rw [ha] at hv
    have hz : z.cells = #[z] := by
      have := k2 ha
      cases z <;> first | rfl | (simp [Value.oneCell'] at this)
    simp only [Bool.false_eq_true, if_false] at hv
    split at hv
    · rename_i c hcs
      simp only [Option.some.injEq] at hv
      subst hv
      exact hc.2 0 c z (by rw [hcs]; rfl) (by rw [hz]; rfl)
    · cases hv

theorem s_lookup (hT : TabOk P T) (ht : TR w0 B0 ρ t a.tmps) (hs : Sim w0 B0 ρ s w) {tt : TypeId} {m k : Operand} {ok : Bool} (ho : o.op = .lookup tt m k ok) (h : evOp T o.op t s = some (r, s')) : OpS P w0 B0 ρ s.ctr a o s' w r := by
  rw [ho] at h
  simp only [evOp] at h
  split at h
  · rename_i kt et _ _ _ _ hti
    have hm : P.underlying tt = some (.map kt et) := (hT tt _ hti).sh
    split at h
    · cases h
    · rename_i ie hie
      split at h
      · rename_i vm vk hem hek
        split at h
        · rename_i es hes hko
          obtain ⟨d, hd, hki⟩ := keyOk_sound hT hko
          have rm := ht.eval hem
          have rk := ht.eval hek
          have hik := hki.key rk
          -- what the map holds
          obtain ⟨ents, hget, hE⟩ : ∃ ents : Array MapEntry, ((a.eval m = .map none ∧ ents = #[]) ∨ ∃ b clock, a.eval m = .map (some b) ∧ w.heap[b]? = some (.map ents clock)) ∧ EntR w0 B0 ρ es ents := by
            cases vm with
            | nilm =>
              generalize a.eval m = mv at rm
              cases rm
              simp only [St.entries, Option.some.injEq] at hes
              subst hes
              exact ⟨#[], .inl ⟨rfl, rfl⟩, rfl, fun i e x he => by simp at he⟩
            | mp g =>
              generalize a.eval m = mv at rm
              cases rm with
              | mp _ b n hρ =>
              obtain ⟨ents, clock, V, q1, hG, hb, hE⟩ := hs.entries hρ hes
              exact ⟨ents, .inr ⟨b, clock, rfl, hb⟩, hE⟩
            | _ => simp [St.entries] at hes
          have hfind := fun r hr => mpFind_sound hki rk es ents.toList 0 r (by simpa using hE.1) (fun j e y he hy => hE.2 j e y he (by simpa using hy)) hr
          have hrun : ∀ {f : Option (Nat × Value)} {x : Value} {q : Bool}, Instr.findNow d (a.eval k) ents.toList 0 = some f →
              ((match f with | some (_, v) => pure (v, true) | none => do pure (← zeroValue et, false) : Sem (Value × Bool)).run P w = .ok (x, q) w) →
              (execOp a.eval o).run P w = .ok (.value (if ok then .tuple #[x, .bool q] else x)) w := by
            intro f x q hf hx
            rcases hget with ⟨hv, rfl⟩ | ⟨b, clock, hv, hb⟩
            · simp only [execOp, ho, hv, Instr.lookup, Sem.run_bind, run_underlying hm, Result.andThen_ok, Sem.run_pure, MapKept.run_checkKey hd hik, MapKept.run_findKey hd hf]
              cases f with
              | none =>
                simp only [Sem.run_bind, Sem.run_pure] at hx ⊢
                cases hz : (zeroValue et).run P w with
                | ok z w2 =>
                  simp only [hz, Result.andThen_ok, Result.ok.injEq, Prod.mk.injEq] at hx ⊢
                  obtain ⟨⟨rfl, rfl⟩, rfl⟩ := hx
                  cases ok <;> simp
                | _ => simp [hz, Result.andThen] at hx
              | some p =>
                obtain ⟨j, v⟩ := p
                simp only [Sem.run_pure, Result.ok.injEq, and_true, Prod.mk.injEq] at hx
                obtain ⟨rfl, rfl⟩ := hx
                cases ok <;> simp
            · simp only [execOp, ho, hv, Instr.lookup, Sem.run_bind, run_underlying hm, Result.andThen_ok, Sem.run_pure, MapKept.run_getObj_map hb, MapKept.run_checkKey hd hik, MapKept.run_findKey hd hf]
              cases f with
              | none =>
                simp only [Sem.run_bind, Sem.run_pure] at hx ⊢
                cases hz : (zeroValue et).run P w with
                | ok z w2 =>
                  simp only [hz, Result.andThen_ok, Result.ok.injEq, Prod.mk.injEq] at hx ⊢
                  obtain ⟨⟨rfl, rfl⟩, rfl⟩ := hx
                  cases ok <;> simp
                | _ => simp [hz, Result.andThen] at hx
              | some p =>
                obtain ⟨j, v⟩ := p
                simp only [Sem.run_pure, Result.ok.injEq, and_true, Prod.mk.injEq] at hx
                obtain ⟨rfl, rfl⟩ := hx
                cases ok <;> simp
          have fin : ∀ {v : AV} {x : Value} {q : Bool}, VR w0 B0 ρ v x → VR w0 B0 ρ (if ok then .tup [v, .bool q] else v) (if ok then .tuple #[x, .bool q] else x) := by
            intro v x q hv
            cases ok with
            | false => exact hv
            | true =>
              refine .tup _ _ rfl (fun i u y hu hy => ?_)
              match i with
              | 0 => simp at hu hy; subst hu; subst hy; exact hv
              | 1 => simp at hu hy; subst hu; subst hy; exact .bool _
              | n + 2 => simp at hu
          split at h
          · rename_i i v hf
            simp only [Option.some.injEq, Prod.mk.injEq] at h
            obtain ⟨rfl, rfl⟩ := h
            obtain ⟨n', y, h0, h1, h2, h3, h4⟩ := (hfind _ hf).2 i v rfl
            exact .pure (hrun h1 rfl) hs (fin h3)
          · rename_i hf
            split at h
            · rename_i z hz
              simp only [Option.some.injEq, Prod.mk.injEq] at h
              obtain ⟨rfl, rfl⟩ := h
              obtain ⟨ti, zv, k1, k2, k3⟩ := (hT et ie hie).zeroVR hz
              exact .pure (hrun ((hfind _ hf).1 rfl) (by simp only [Sem.run_bind, run_zeroValue' k1 k2, Result.andThen_ok, Sem.run_pure])) hs (fin (k3 w0 B0 ρ))
            · cases h
          · cases h
        · cases h
      · cases h
  · cases h
end
end Go.Ab
