/- The clock's hand comes to a slot within two rounds, if one is not pinned. Plain Lean. -/
import Derived.Test.YtcncfloigaiojaaClkM
namespace Go.Proofs.Ytcncfloigaiojaa
namespace Ck
/-- the row as the hand meets it: a queue -/
def que : Nat → List Slot → Option (Nat × List Slot)
  | 0, _ => none
  | _ + 1, [] => none
  | k + 1, s :: R => if 0 < s.pins then (que k (R ++ [s])).map fun (n, q) => (n + 1, q)
    else if s.used = true then (que k (R ++ [lazyF s])).map fun (n, q) => (n + 1, q)
    else some (0, s :: R)

theorem mod_len {S : List Slot} {h : Nat} (f : Slot → Slot) : (S.modify h f).length = S.length := by simp

/-- 'rot S h': S from place h on, round. -/
def rot (S : List Slot) (h : Nat) : List Slot := S.drop h ++ S.take h

theorem rot_cons {S : List Slot} {h : Nat} (hh : h < S.length) : rot S h = sl S h :: (S.drop (h + 1) ++ S.take h) := by
  unfold rot
  have : sl S h = S[h] := sl_get S h hh
  rw [List.drop_eq_getElem_cons hh, this]; rfl

theorem rot_next {S : List Slot} {h : Nat} (hh : h < S.length) (f : Slot → Slot) :
    rot (S.modify h f) ((h + 1) % S.length) = (S.drop (h + 1) ++ S.take h) ++ [f (sl S h)] := by
  have e : S.modify h f = S.take h ++ f (sl S h) :: S.drop (h + 1) := by
    have : sl S h = S[h] := sl_get S h hh
    rw [List.modify_eq_take_cons_drop hh, this]
  have hl : (S.take h).length = h := by simp; omega
  unfold rot
  by_cases h1 : h + 1 = S.length
  · rw [h1, Nat.mod_self, e]
    have : S.drop S.length = [] := by simp
    rw [this]; simp; omega
  · rw [Nat.mod_eq_of_lt (by omega), e]
    have a : (S.take h ++ f (sl S h) :: S.drop (h + 1)).drop (h + 1) = S.drop (h + 1) := by
      rw [List.drop_append, hl, List.drop_of_length_le (by omega), Nat.add_sub_cancel_left]; simp
    have b : (S.take h ++ f (sl S h) :: S.drop (h + 1)).take (h + 1) = S.take h ++ [f (sl S h)] := by
      rw [List.take_append, hl, List.take_of_length_le (by omega), Nat.add_sub_cancel_left]; simp
    rw [a, b]; simp

theorem modify_id (S : List Slot) (h : Nat) : S.modify h id = S := by
  rw [List.modify_id]

/-- the round stops just if the queue does -/
theorem round_que (k : Nat) : ∀ (S : List Slot) (h : Nat), h < S.length → (round k S h).isSome = (que k (rot S h)).isSome := by
  induction k with
  | zero => intro S h _; simp [round, que]
  | succ k ih =>
    intro S h hh
    have hn : (h + 1) % S.length < S.length := Nat.mod_lt _ (by omega)
    rw [rot_cons hh]
    unfold round que
    by_cases h1 : 0 < (sl S h).pins
    · rw [if_pos h1, if_pos h1, ih S _ hn]
      have := rot_next hh id
      rw [modify_id] at this
      rw [this]; simp
    · rw [if_neg h1, if_neg h1]
      by_cases h2 : (sl S h).used = true
      · rw [if_pos h2, if_pos h2, ih _ _ (by simpa using hn)]
        have := rot_next hh lazyF
        rw [this]; simp
      · rw [if_neg h2, if_neg h2]; rfl

/-- behind the first pass: what may go is not used -/
def lazy (B : List Slot) : Prop := ∀ s ∈ B, ¬ 0 < s.pins → s.used = false

theorem que_second (A : List Slot) : ∀ (B : List Slot) (k : Nat), lazy A → (∃ s ∈ A, ¬ 0 < s.pins) → A.length ≤ k → (que k (A ++ B)).isSome = true := by
  induction A with
  | nil => intro B k _ h _; simp at h
  | cons s A ih =>
    intro B k hl he hk
    match k, hk with
    | 0, hk => simp at hk
    | k + 1, hk =>
      simp only [List.cons_append, que]
      by_cases h1 : 0 < s.pins
      · rw [if_pos h1, List.append_assoc]
        have : ∃ s ∈ A, ¬ 0 < s.pins := by
          obtain ⟨t, ht, hp⟩ := he
          rcases List.mem_cons.1 ht with rfl | ht
          · exact absurd h1 hp
          · exact ⟨t, ht, hp⟩
        have := ih (B ++ [s]) k (fun t ht => hl t (by simp [ht])) this (by simpa using hk)
        rw [Option.isSome_map]; exact this
      · rw [if_neg h1, if_neg (by simp [hl s (by simp) h1])]; rfl

theorem que_first (A : List Slot) : ∀ (B : List Slot) (k : Nat), lazy B → (∃ s ∈ A ++ B, ¬ 0 < s.pins) → 2 * A.length + B.length ≤ k → (que k (A ++ B)).isSome = true := by
  induction A with
  | nil => intro B k hl he hk; have := que_second B [] k hl (by simpa using he) (by simpa using hk); simpa using this
  | cons s A ih =>
    intro B k hl he hk
    match k, hk with
    | 0, hk => simp at hk
    | k + 1, hk =>
      simp only [List.cons_append, que]
      by_cases h1 : 0 < s.pins
      · rw [if_pos h1, List.append_assoc, Option.isSome_map]
        refine ih (B ++ [s]) k ?_ ?_ (by simp at hk ⊢; omega)
        · intro t ht hp
          rcases List.mem_append.1 ht with ht | ht
          · exact hl t ht hp
          · simp at ht; subst ht; exact absurd h1 hp
        · obtain ⟨t, ht, hp⟩ := he
          exact ⟨t, by simp at ht ⊢; rcases ht with h | h | h <;> simp [h], hp⟩
      · rw [if_neg h1]
        by_cases h2 : s.used = true
        · rw [if_pos h2, List.append_assoc, Option.isSome_map]
          refine ih (B ++ [lazyF s]) k ?_ ?_ (by simp at hk ⊢; omega)
          · intro t ht hp
            rcases List.mem_append.1 ht with ht | ht
            · exact hl t ht hp
            · simp at ht; subst ht; rfl
          · exact ⟨lazyF s, by simp, h1⟩
        · rw [if_neg h2]; rfl

theorem round_total (S : List Slot) (h : Nat) (hh : h < S.length) (hp : ∃ s ∈ S, ¬ 0 < s.pins) : ∃ r, round (2 * S.length) S h = some r := by
  have := round_que (2 * S.length) S h hh
  have hq := que_first (rot S h) [] (2 * S.length) (by intro s hs; simp at hs) (by
    obtain ⟨s, hs, hp⟩ := hp
    refine ⟨s, ?_, hp⟩
    have : s ∈ S.take h ++ S.drop h := by rw [List.take_append_drop]; exact hs
    unfold rot
    rcases List.mem_append.1 this with h | h
    · exact List.mem_append.2 (.inl (List.mem_append.2 (.inr h)))
    · exact List.mem_append.2 (.inl (List.mem_append.2 (.inl h)))) (by unfold rot; simp; omega)
  rw [List.append_nil] at hq
  rw [hq] at this
  exact Option.isSome_iff_exists.1 this
theorem round_more (k : Nat) : ∀ (j : Nat) (S : List Slot) (h : Nat) (r : Nat × List Slot × Nat), round k S h = some r → k ≤ j → round j S h = some r := by
  induction k with
  | zero => intro j S h r e; simp [round] at e
  | succ k ih =>
    intro j S h r e hj
    match j, hj with
    | j + 1, hj =>
      unfold round at e ⊢
      split
      · rename_i h1; rw [if_pos h1] at e; exact ih j _ _ _ e (by omega)
      · rename_i h1; rw [if_neg h1] at e
        split
        · rename_i h2; rw [if_pos h2] at e; exact ih j _ _ _ e (by omega)
        · rename_i h2; rw [if_neg h2] at e; exact e
theorem round_hand (k : Nat) : ∀ (S : List Slot) (h : Nat) (r : Nat × List Slot × Nat), h < S.length → round k S h = some r → r.1 < S.length ∧ r.2.2 < S.length := by
  induction k with
  | zero => intro S h r _ e; simp [round] at e
  | succ k ih =>
    intro S h r hh e
    have hn : (h + 1) % S.length < S.length := Nat.mod_lt _ (by omega)
    unfold round at e
    split at e
    · exact ih _ _ _ hn e
    · split at e
      · simpa using ih (S.modify h lazyF) _ r (by simpa using hn) e
      · cases e; exact ⟨hh, hn⟩
end Ck
end Go.Proofs.Ytcncfloigaiojaa
