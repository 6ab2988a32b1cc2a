/- More rounds: what the evaluator answers it answers with more rounds too. -/
import Derived.Test.YtdpdlmjlahehoaaG1
namespace Go.Ab
section
variable {T : Tab} {call call' : FuncId → List AV → St → Option (AV × St)}
def CallLe (call call' : FuncId → List AV → St → Option (AV × St)) : Prop := ∀ f a s r, call f a s = some r → call' f a s = some r
theorem le_step (h : CallLe call call') {ops : Array Oper} {o : Oper} {t : TL} {s : St} {r : TL × St} (k : evStep T call ops o t s = some r) : evStep T call' ops o t s = some r := by
  unfold evStep at k ⊢
  split at k
  · cases k
  · exact k
  · split at k
    · cases k
    · exact k
    · exact k
    · split at k
      · cases k
      · rename_i hc
        simp only [h _ _ _ _ hc]
        exact k
theorem le_ops (h : CallLe call call') {ops : Array Oper} : ∀ (l : List Oper) {t : TL} {s : St} {r : TL × St}, evOps T call ops l t s = some r → evOps T call' ops l t s = some r
  | [], t, s, r, k => k
  | o :: l, t, s, r, k => by
    simp only [evOps] at k ⊢
    split at k
    · cases k
    · rename_i hs
      simp only [le_step h hs]
      exact le_ops h l k
theorem le_log (h : CallLe call call') {ops : Array Oper} : ∀ (l : List Oper) (hs : List (Option (Nat × List AV))) {t : TL} {s : St} {r : TL × St × List Entry}, evLog T call ops l hs t s = some r → evLog T call' ops l hs t s = some r
  | [], hs, t, s, r, k => by cases hs <;> exact k
  | o :: l, [], t, s, r, k => k
  | o :: l, some (c, cs) :: hs, t, s, r, k => by
    simp only [evLog] at k ⊢
    split at k
    · cases k
    · split at k
      · cases k
      · rename_i hr
        simp only [le_log h l hs hr]
        exact k
  | o :: l, none :: hs, t, s, r, k => by
    simp only [evLog] at k ⊢
    split at k
    · cases k
    · rename_i h1
      simp only [le_step h h1]
      split at k
      · cases k
      · rename_i hr
        simp only [le_log h l hs hr]
        exact k
theorem le_guess (h : CallLe call call') {ops : Array Oper} : ∀ (l : List Oper) (hs : List (Option (Nat × List AV))) {t : TL} {s : St} {r : List (List AV)}, evGuess T call ops l hs t s = some r → evGuess T call' ops l hs t s = some r
  | [], hs, t, s, r, k => by cases hs <;> exact k
  | o :: l, [], t, s, r, k => k
  | o :: l, some (c, cs) :: hs, t, s, r, k => by
    simp only [evGuess] at k ⊢
    repeat' split at k
    all_goals first
      | (cases k; done)
      | (rw [Option.map_eq_some_iff] at k ⊢; obtain ⟨q, k1, k2⟩ := k; exact ⟨q, le_guess h l hs k1, k2⟩)
  | o :: l, none :: hs, t, s, r, k => by
    simp only [evGuess] at k ⊢
    split at k
    · cases k
    · rename_i h1
      simp only [le_step h h1]
      rw [Option.map_eq_some_iff] at k ⊢
      obtain ⟨q, k1, k2⟩ := k
      exact ⟨q, le_guess h l hs k1, k2⟩
theorem le_draw (h : CallLe call call') {b : Bool} {gs : List (List AV)} {ops : Array Oper} {t : TL} {s : St} {r : TL × St} (k : evDraw T call b gs ops t s = some r) : evDraw T call' b gs ops t s = some r := by
  unfold evDraw at k ⊢
  split at k
  · cases k
  · split at k
    · cases k
    · rename_i h1
      simp only [le_log h _ _ h1]
      exact k
theorem le_foretold (h : CallLe call call') {ops : Array Oper} {t : TL} {s : St} {r : List (List AV)} (k : foretold T call ops t s = some r) : foretold T call' ops t s = some r := by
  unfold foretold at k ⊢
  split at k
  · cases k
  · exact le_guess h _ _ k
theorem le_code (h : CallLe call call') : ∀ (n : Nat),
    (∀ (c : Code) {t : TL} {s : St} {r : Ex × TL × St}, evCode T call n c t s = some r → evCode T call' (n + 1) c t s = some r) ∧
    (∀ (b c : Code) {t : TL} {s : St} {r : Ex × TL × St}, evCode.evScope T call n b c t s = some r → evCode.evScope T call' (n + 1) b c t s = some r) := by
  intro n
  induction n with
  | zero => exact ⟨fun c t s r k => by simp [evCode] at k, fun b c t s r k => by simp [evCode.evScope] at k⟩
  | succ n ih =>
    obtain ⟨ihc, ihs⟩ := ih
    refine ⟨fun c t s r k => ?_, fun b c t s r k => ?_⟩
    · cases c with
      | region id ops draw =>
        cases draw with
        | false =>
          simp only [evCode] at k ⊢
          split at k
          · cases k
          · rename_i h1
            simp only [le_ops h _ h1]
            exact k
        | true =>
          simp only [evCode] at k ⊢
          split at k
          · rename_i hd
            rw [if_pos hd]
            split at k
            · cases k
            · rename_i h1
              simp only [le_draw h h1]
              exact k
          · rename_i hd
            rw [if_neg hd]
            split at k
            · rename_i hd2
              rw [if_pos hd2]
              split at k
              · cases k
              · rename_i hf
                simp only [le_foretold h hf]
                split at k
                · cases k
                · rename_i h1
                  simp only [le_draw h h1]
                  exact k
            · cases k
      | seq a b =>
        rw [evCode] at k ⊢
        split at k
        · rename_i h1
          simp only [ihc a h1]
          exact ihc b k
        · rename_i hne
          cases h1 : evCode T call n a t s with
          | none => rw [h1] at k; cases k
          | some q =>
            rw [h1] at k
            have := ihc a h1
            rw [this]
            obtain ⟨x, t1, s1⟩ := q
            cases x with
            | normal => exact absurd h1 (hne t1 s1)
            | _ => exact k
      | cond q a b =>
        rw [evCode] at k ⊢
        split at k
        · exact ihc _ k
        · cases k
      | block id b =>
        rw [evCode] at k ⊢
        split at k
        · rename_i h1
          simp only [ihc b h1]
          exact k
        · rename_i hne
          cases h1 : evCode T call n b t s with
          | none => rw [h1] at k; cases k
          | some q =>
            rw [h1] at k
            have := ihc b h1
            rw [this]
            obtain ⟨x, t1, s1⟩ := q
            cases x with
            | exit i => exact absurd h1 (hne i t1 s1)
            | _ => exact k
      | loop b =>
        rw [evCode] at k ⊢
        split at k
        · rename_i h1
          simp only [ihc b h1]
          exact ihc _ k
        · rename_i hne
          cases h1 : evCode T call n b t s with
          | none => rw [h1] at k; cases k
          | some q =>
            rw [h1] at k
            have := ihc b h1
            rw [this]
            obtain ⟨x, t1, s1⟩ := q
            cases x with
            | normal => exact absurd h1 (hne t1 s1)
            | _ => exact k
      | scope b =>
        simp only [evCode] at k ⊢
        exact ihs b b k
      | _ => simp only [evCode] at k ⊢ <;> first | exact k | cases k
    · simp only [evCode.evScope] at k ⊢
      split at k
      · rename_i h1
        simp only [ihc c h1]
        split at k
        · rename_i hl
          exact ihs _ _ k
        · exact k
      · rename_i hne
        cases h1 : evCode T call n c t s with
        | none => rw [h1] at k; cases k
        | some q =>
          rw [h1] at k
          have := ihc c h1
          rw [this]
          obtain ⟨x, t1, s1⟩ := q
          cases x with
          | goto i => exact absurd h1 (hne i t1 s1)
          | _ => exact k
theorem le_call {P : Program} : ∀ (n : Nat), CallLe (evCall P T n) (evCall P T (n + 1))
  | 0, f, a, s, r, k => by simp [evCall] at k
  | n + 1, f, a, s, r, k => by
    have h := le_call (P := P) n
    rw [evCall] at k ⊢
    split at k
    · cases k
    · split at k
      · cases k
      · rename_i c _
        cases h1 : evCode T (evCall P T n) n c (TL.start a _) s with
        | none => rw [h1] at k; cases k
        | some q =>
          rw [h1] at k
          rw [(le_code h n).1 c h1]
          exact k
theorem le_calls {P : Program} (n m : Nat) (h : n ≤ m) : CallLe (evCall P T n) (evCall P T m) := by
  obtain ⟨k, rfl⟩ := Nat.exists_eq_add_of_le h
  induction k with
  | zero => exact fun _ _ _ _ h => h
  | succ k ih => exact fun f a s r hk => le_call (n + k) f a s r (ih (by omega) f a s r hk)
end
end Go.Ab
