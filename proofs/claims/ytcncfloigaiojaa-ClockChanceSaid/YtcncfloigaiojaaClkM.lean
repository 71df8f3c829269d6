/- The clock in plain Lean: slots, the hand, what each deed does to them. No program. -/
namespace Go.Proofs.Ytcncfloigaiojaa

structure Slot where
  taken : Bool
  used : Bool
  pins : Int
deriving Inhabited

namespace Ck
def newN (n : Int) : Nat := (min (max n 0) 64).toNat
def sl (S : List Slot) (i : Nat) : Slot := S.getD i default
theorem sl_get (S : List Slot) (i : Nat) (h : i < S.length) : sl S i = S[i] := by simp [sl, h]
theorem sl_some (S : List Slot) (i : Nat) (h : i < S.length) : S[i]? = some (sl S i) := by simp [sl, h]
def upd (S : List Slot) (i : Int) (f : Slot → Slot) : List Slot := if 0 ≤ i ∧ i < S.length then S.modify i.toNat f else S
def setF (s : Slot) : Slot := { s with taken := true, used := true }
def useF (s : Slot) : Slot := if s.taken then { s with used := true } else s
def pinF (s : Slot) : Slot := if s.taken then { s with pins := s.pins + 1 } else s
def unpinF (s : Slot) : Slot := if s.taken then { s with pins := max (s.pins - 1) 0 } else s
def freeF (_ : Slot) : Slot := ⟨false, false, 0⟩
def lazyF (s : Slot) : Slot := { s with used := false }
def takenB (S : List Slot) (i : Int) : Bool := if 0 ≤ i ∧ i < S.length then (sl S i.toNat).taken else false
def many (S : List Slot) : Nat := S.countP (·.taken)
def round : Nat → List Slot → Nat → Option (Nat × List Slot × Nat)
  | 0, _, _ => none
  | k + 1, S, h =>
    if 0 < (sl S h).pins then round k S ((h + 1) % S.length)
    else if (sl S h).used = true then round k (S.modify h lazyF) ((h + 1) % S.length)
    else some (h, S, (h + 1) % S.length)
def take (S : List Slot) (h : Nat) : Int × Bool × List Slot × Nat :=
  match S.findIdx? (fun s => !s.taken) with
  | some i => (i, true, upd S i setF, h)
  | none =>
    if S.any (fun s => s.pins == 0) then
      match round (2 * S.length) S h with
      | some (g, S', h') => (g, true, upd S' g setF, h')
      | none => (0, false, S, h)
    else (0, false, S, h)

@[simp] theorem upd_length (S : List Slot) (i : Int) (f : Slot → Slot) : (upd S i f).length = S.length := by
  unfold upd; split <;> simp
theorem upd_nat (S : List Slot) (i : Nat) (f : Slot → Slot) : upd S i f = S.modify i f := by
  unfold upd
  split
  · rfl
  · rename_i h
    have : S.length ≤ i := by omega
    apply List.ext_getElem?
    intro j
    rw [List.getElem?_modify]
    split
    · subst_vars; simp [List.getElem?_eq_none this]
    · simp

theorem modify_congr (S : List Slot) (n : Nat) (f g : Slot → Slot) (h : f (sl S n) = g (sl S n)) : S.modify n f = S.modify n g := by
  apply List.ext_getElem?
  intro j
  rw [List.getElem?_modify, List.getElem?_modify]
  by_cases e : n = j
  · subst e
    by_cases hl : n < S.length
    · have : S[n]? = some (sl S n) := sl_some S n hl
      simp only [if_true]
      rw [this, Option.map_eq_map, Option.map_eq_map, Option.map_some, Option.map_some, h]
    · rw [List.getElem?_eq_none (by omega)]; simp
  · simp [e]
theorem modify_same (S : List Slot) (n : Nat) (f : Slot → Slot) (h : f (sl S n) = sl S n) : S.modify n f = S := by
  rw [modify_congr S n f id h, List.modify_id]
theorem upd_out (S : List Slot) (i : Int) (f : Slot → Slot) (h : ¬ (0 ≤ i ∧ i < S.length)) : upd S i f = S := if_neg h
theorem takenB_nat (S : List Slot) (n : Nat) (h : n < S.length) : takenB S n = (sl S n).taken := by simp [takenB, h]
theorem takenB_out (S : List Slot) (i : Int) (h : ¬ (0 ≤ i ∧ i < S.length)) : takenB S i = false := if_neg h
theorem upd_useF (S : List Slot) (n : Nat) (h : (sl S n).taken = true) : upd S n useF = S.modify n (fun s => { s with used := true }) := by
  rw [upd_nat]; exact modify_congr _ _ _ _ (by simp [useF, h])
theorem upd_pinF (S : List Slot) (n : Nat) (h : (sl S n).taken = true) : upd S n pinF = S.modify n (fun s => { s with pins := (sl S n).pins + 1 }) := by
  rw [upd_nat]; exact modify_congr _ _ _ _ (by simp [pinF, h])
theorem upd_unpinF (S : List Slot) (n : Nat) (h : (sl S n).taken = true) : upd S n unpinF = S.modify n (fun s => { s with pins := max ((sl S n).pins - 1) 0 }) := by
  rw [upd_nat]; exact modify_congr _ _ _ _ (by simp [unpinF, h])
theorem upd_not (S : List Slot) (n : Nat) (h : ¬ (sl S n).taken = true) : upd S n useF = S ∧ upd S n pinF = S ∧ upd S n unpinF = S := by
  rw [upd_nat, upd_nat, upd_nat]
  exact ⟨modify_same _ _ _ (by rw [useF, if_neg h]), modify_same _ _ _ (by rw [pinF, if_neg h]), modify_same _ _ _ (by rw [unpinF, if_neg h])⟩

theorem round_len (k : Nat) : ∀ (S : List Slot) (h : Nat) (r : Nat × List Slot × Nat), round k S h = some r → r.2.1.length = S.length := by
  induction k with
  | zero => intro S h r e; simp [round] at e
  | succ k ih =>
    intro S h r e
    unfold round at e
    split at e
    · exact ih _ _ _ e
    · split at e
      · simpa using ih _ _ _ e
      · cases e; rfl
end Ck
end Go.Proofs.Ytcncfloigaiojaa
