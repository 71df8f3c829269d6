/- The clock's small methods: what each call answers, and how the slots are then. -/
import Derived.Test.YtcncfloigaiojaaProg
import Derived.Test.YtcncfloigaiojaaMem
import Derived.Test.YtcncfloigaiojaaClkM
import Derived.LoopTactic
import Derived.OwnWalk
import Derived.Outline
import Derived.Lib.Hide
import Derived.BigQuiet
import Derived.Deep.QuietTactic
import Derived.Laws.MakeOwn
namespace Go.Proofs.Ytcncfloigaiojaa
open Go Go.RowKit Go.Proofs

def flat (S : List Slot) : List Value := S.flatMap fun s => [.bool s.taken, .bool s.used, .int .i64 s.pins]

/-- in 'w' lies a clock at block b, its slots at block bl -/
structure ClockIs (w : World) (b bl : Nat) (S : List Slot) (hand : Nat) : Prop where
  ne : b ≠ bl
  top : w.heap[b]? = some (.cells #[.slice (some ⟨bl, 0, none⟩) S.length S.length, .int .i64 hand] 46 (0, 0))
  row : w.heap[bl]? = some (.cells (flat S).toArray 49 (0, 0))

theorem flat_cons (s : Slot) (S : List Slot) : flat (s :: S) = .bool s.taken :: .bool s.used :: .int .i64 s.pins :: flat S := by simp [flat]
theorem flat_length (S : List Slot) : (flat S).length = 3 * S.length := by
  induction S with
  | nil => rfl
  | cons s S ih => rw [flat_cons]; simp [ih]; omega
theorem flat_get (S : List Slot) : ∀ (i : Nat), i < S.length → (flat S)[3*i]? = some (.bool (Ck.sl S i).taken) ∧ (flat S)[3*i+1]? = some (.bool (Ck.sl S i).used) ∧ (flat S)[3*i+2]? = some (.int .i64 (Ck.sl S i).pins) := by
  induction S with
  | nil => intro i h; simp at h
  | cons s S ih =>
    intro i h
    match i with
    | 0 => simp [flat, Ck.sl]
    | i + 1 =>
      have := ih i (by simpa using h)
      rw [flat_cons, show 3 * (i+1) = 3 * i + 3 from by omega]
      simpa [Ck.sl] using this
theorem flat_modify (S : List Slot) (f : Slot → Slot) : ∀ (i : Nat), i < S.length → flat (S.modify i f) =
    (((flat S).set (3*i) (.bool (f (Ck.sl S i)).taken)).set (3*i+1) (.bool (f (Ck.sl S i)).used)).set (3*i+2) (.int .i64 (f (Ck.sl S i)).pins) := by
  induction S with
  | nil => intro i h; simp at h
  | cons s S ih =>
    intro i h
    match i with
    | 0 => simp [flat_cons, Ck.sl]
    | i + 1 =>
      have := ih i (by simpa using h)
      rw [List.modify_succ_cons, flat_cons, flat_cons, this, show 3 * (i+1) = 3 * i + 3 from by omega]
      simp [Ck.sl]

theorem ClockIs.frm {F : List Nat} {w w' : World} {b bl : Nat} {S : List Slot} {hand : Nat} (h : ClockIs w b bl S hand) (hf : Frm F w w') (h1 : b ∉ F) (h2 : bl ∉ F) : ClockIs w' b bl S hand :=
  ⟨h.ne, hf.get h.top h1, hf.get h.row h2⟩
theorem ClockIs.cells {w : World} {b bl : Nat} {S : List Slot} {hand : Nat} (h : ClockIs w b bl S hand) :
    w.cell? ⟨b, 0, none⟩ = some (.slice (some ⟨bl, 0, none⟩) S.length S.length) ∧ w.cell? ⟨b, 1, none⟩ = some (.int .i64 hand) ∧ w.frozen? ⟨b, 1, none⟩ = false := by
  simp [World.cell?, World.frozen?, h.top]
theorem ClockIs.slot {w : World} {b bl : Nat} {S : List Slot} {hand : Nat} (h : ClockIs w b bl S hand) (i : Nat) (hi : i < S.length) :
    w.cell? ⟨bl, i*3, none⟩ = some (.bool (Ck.sl S i).taken) ∧ w.cell? ⟨bl, i*3+1, none⟩ = some (.bool (Ck.sl S i).used) ∧ w.cell? ⟨bl, i*3+2, none⟩ = some (.int .i64 (Ck.sl S i).pins)
    ∧ w.frozen? ⟨bl, i*3, none⟩ = false ∧ w.frozen? ⟨bl, i*3+1, none⟩ = false ∧ w.frozen? ⟨bl, i*3+2, none⟩ = false := by
  have := flat_get S i hi
  rw [Nat.mul_comm i 3]
  simp [World.cell?, World.frozen?, h.row, this]
theorem ClockIs.size {w : World} {b bl : Nat} {S : List Slot} {hand : Nat} (h : ClockIs w b bl S hand) : b < w.heap.size ∧ bl < w.heap.size := ⟨lt_of_block h.top, lt_of_block h.row⟩

theorem set_same (l : List Value) (i : Nat) (v : Value) (h : l[i]? = some v) : l.set i v = l := by
  apply List.ext_getElem?
  intro j
  rw [List.getElem?_set]
  split
  · subst_vars; split
    · exact h.symm
    · rename_i h1; rw [List.getElem?_eq_none (by omega)]
  · rfl
/-- the three ways of storing into a slot -/
theorem ClockIs.store_taken_used {w : World} {b bl : Nat} {S : List Slot} {hand : Nat} (h : ClockIs w b bl S hand) (i : Nat) (hi : i < S.length) (t u : Bool) :
    ClockIs ((w.setCell ⟨bl, i*3, none⟩ (.bool t)).setCell ⟨bl, i*3+1, none⟩ (.bool u)) b bl (S.modify i fun s => { s with taken := t, used := u }) hand := by
  refine ⟨h.ne, ?_, ?_⟩
  · rw [block_setCell_ne h.ne, block_setCell_ne h.ne]; simpa using h.top
  · rw [block_setCell (block_setCell h.row _)]
    congr 2
    rw [flat_modify _ _ _ hi, Nat.mul_comm i 3]
    have := (flat_get S i hi).2.2
    simp only [List.setIfInBounds_toArray]
    congr 1
    refine (set_same _ _ _ ?_).symm
    rw [List.getElem?_set_ne (by omega), List.getElem?_set_ne (by omega)]
    exact this
theorem ClockIs.store_used {w : World} {b bl : Nat} {S : List Slot} {hand : Nat} (h : ClockIs w b bl S hand) (i : Nat) (hi : i < S.length) (u : Bool) :
    ClockIs (w.setCell ⟨bl, i*3+1, none⟩ (.bool u)) b bl (S.modify i fun s => { s with used := u }) hand := by
  refine ⟨h.ne, ?_, ?_⟩
  · rw [block_setCell_ne h.ne]; simpa using h.top
  · rw [block_setCell h.row _]
    congr 2
    rw [flat_modify _ _ _ hi, Nat.mul_comm i 3]
    have := flat_get S i hi
    simp only [List.setIfInBounds_toArray]
    congr 1
    rw [set_same (flat S) (3 * i) _ this.1]
    refine (set_same _ _ _ ?_).symm
    rw [List.getElem?_set_ne (by omega)]
    exact this.2.2
theorem ClockIs.store_pins {w : World} {b bl : Nat} {S : List Slot} {hand : Nat} (h : ClockIs w b bl S hand) (i : Nat) (hi : i < S.length) (p : Int) :
    ClockIs (w.setCell ⟨bl, i*3+2, none⟩ (.int .i64 p)) b bl (S.modify i fun s => { s with pins := p }) hand := by
  refine ⟨h.ne, ?_, ?_⟩
  · rw [block_setCell_ne h.ne]; simpa using h.top
  · rw [block_setCell h.row _]
    congr 2
    rw [flat_modify _ _ _ hi, Nat.mul_comm i 3]
    have := flat_get S i hi
    simp only [List.setIfInBounds_toArray]
    congr 1
    rw [set_same (flat S) (3 * i) _ this.1, set_same (flat S) (3 * i + 1) _ this.2.1]
theorem ClockIs.hand {w : World} {b bl : Nat} {S : List Slot} {hand : Nat} (h : ClockIs w b bl S hand) (z : Int) (n : Nat) (hz : z = n) : ClockIs (w.setCell ⟨b, 1, none⟩ (.int .i64 z)) b bl S n := by
  subst hz
  refine ⟨h.ne, ?_, ?_⟩
  · rw [block_setCell h.top]; simp
  · rw [block_setCell_ne (Ne.symm h.ne)]; exact h.row

set_option maxHeartbeats 400000 in
theorem at_some (w : World) (b bl : Nat) (S : List Slot) (hand : Nat) (i : Nat) (hi : i < S.length) (h : ClockIs w b bl S hand) :
    Calls Try.prog 26 #[.pointer (some ⟨b, 0, none⟩), .int .i64 i] w fun e w' => e = .returned (.pointer (some ⟨bl, i*3, none⟩)) ∧ w = w' := by
  obtain ⟨c0, c1, -⟩ := h.cells
  clear h
  go_enter Try.func26, Try.ntmps26
  go_wp2
  go_ret
  exact ⟨rfl, rfl⟩
set_option maxHeartbeats 400000 in
theorem at_none (w : World) (b bl : Nat) (S : List Slot) (hand : Nat) (i : Int) (hi : i < 0 ∨ S.length ≤ i) (h : ClockIs w b bl S hand) :
    Calls Try.prog 26 #[.pointer (some ⟨b, 0, none⟩), .int .i64 i] w fun e w' => e = .returned (.pointer none) ∧ w = w' := by
  obtain ⟨c0, c1, -⟩ := h.cells
  clear h
  by_cases h0 : i < 0
  · go_enter Try.func26, Try.ntmps26
    go_wp2
    go_ret
    exact ⟨rfl, rfl⟩
  · have h1 : (S.length : Int) ≤ i := by omega
    clear hi
    go_enter Try.func26, Try.ntmps26
    go_wp2
    go_ret
    exact ⟨rfl, rfl⟩
theorem at_nil (w : World) (i : Int) :
    Calls Try.prog 26 #[.pointer none, .int .i64 i] w fun e w' => e = .returned (.pointer none) ∧ w = w' := by
  go_enter Try.func26, Try.ntmps26
  go_wp2
  go_ret
  exact ⟨rfl, rfl⟩
theorem ret_bool {a b : Bool} (h : a = b) : Ending.returned (.bool a) = .returned (.bool b) := by rw [h]
theorem ret_int {k : IntKind} {a b : Int} (h : a = b) : Ending.returned (.int k a) = .returned (.int k b) := by rw [h]
set_option maxHeartbeats 400000 in
theorem taken_any (w : World) (b bl : Nat) (S : List Slot) (hand : Nat) (i : Int) (h : ClockIs w b bl S hand) :
    Calls Try.prog 14 #[.pointer (some ⟨b, 0, none⟩), .int .i64 i] w fun e w' => e = .returned (.bool (Ck.takenB S i)) ∧ w = w' := by
  by_cases hi : 0 ≤ i ∧ i < S.length
  · obtain ⟨n, rfl⟩ := Int.eq_ofNat_of_zero_le hi.1
    have hl : n < S.length := by omega
    obtain ⟨c0, c1, c2, -⟩ := h.slot n hl
    have HT := Ck.takenB_nat S n hl
    have H := Lib.hid HT; clear HT
    go_enter Try.func14, Try.ntmps14
    go_wp2_with (go_at_call 26; refine (at_some w b bl S hand n hl h).mono ?_; rintro e w' ⟨rfl, rfl⟩)
    go_ret
    exact ⟨ret_bool (H.out.symm), rfl⟩
  · have hi' : i < 0 ∨ S.length ≤ i := by omega
    have HT : Ck.takenB S i = false := by simp only [Ck.takenB, if_neg hi]
    have H := Lib.hid HT; clear HT
    clear hi
    go_enter Try.func14, Try.ntmps14
    go_wp2_with (go_at_call 26; refine (at_none w b bl S hand i hi' h).mono ?_; rintro e w' ⟨rfl, rfl⟩)
    go_ret
    exact ⟨ret_bool H.out.symm, rfl⟩
theorem taken_nil (w : World) (i : Int) :
    Calls Try.prog 14 #[.pointer none, .int .i64 i] w fun e w' => e = .returned (.bool false) ∧ w = w' := by
  go_enter Try.func14, Try.ntmps14
  go_wp2_with (go_at_call 26; refine (at_nil w i).mono ?_; rintro e w' ⟨rfl, rfl⟩)
  go_ret
  exact ⟨rfl, rfl⟩
theorem hand_any (w : World) (b bl : Nat) (S : List Slot) (hand : Nat) (h : ClockIs w b bl S hand) :
    Calls Try.prog 17 #[.pointer (some ⟨b, 0, none⟩)] w fun e w' => e = .returned (.int .i64 hand) ∧ w = w' := by
  obtain ⟨c0, c1, -⟩ := h.cells
  clear h
  go_enter Try.func17, Try.ntmps17
  go_wp2
  go_ret
  exact ⟨rfl, rfl⟩
theorem hand_nil (w : World) :
    Calls Try.prog 17 #[.pointer none] w fun e w' => e = .returned (.int .i64 0) ∧ w = w' := by
  go_enter Try.func17, Try.ntmps17
  go_wp2
  go_ret
  exact ⟨rfl, rfl⟩
/-- what a deed on one slot leaves -/
def Upd (w : World) (b bl : Nat) (S : List Slot) (hand : Nat) (e : Ending) (w' : World) : Prop :=
  e = .returned (.tuple #[]) ∧ ClockIs w' b bl S hand ∧ Frm [bl] w w'
set_option maxHeartbeats 400000 in
theorem set_any (w : World) (b bl : Nat) (S : List Slot) (hand : Nat) (i : Int) (h : ClockIs w b bl S hand) :
    Calls Try.prog 10 #[.pointer (some ⟨b, 0, none⟩), .int .i64 i] w (Upd w b bl (Ck.upd S i Ck.setF) hand) := by
  by_cases hi : 0 ≤ i ∧ i < S.length
  · obtain ⟨n, rfl⟩ := Int.eq_ofNat_of_zero_le hi.1
    have hl : n < S.length := by omega
    have hS := h.store_taken_used n hl true true
    obtain ⟨c0, c1, c2, f0, f1, f2⟩ := h.slot n hl
    go_enter Try.func10, Try.ntmps10
    go_wp2_with (go_at_call 26; refine (at_some w b bl S hand n hl h).mono ?_; rintro e w' ⟨rfl, rfl⟩)
    go_end0
    refine ⟨rfl, ?_, ?_⟩
    · rw [Ck.upd_nat]; exact hS
    · exact ((Frm.refl _ _).setCell (by simp) _).setCell (by simp) _
  · have hi' : i < 0 ∨ S.length ≤ i := by omega
    have HT : Ck.upd S i Ck.setF = S := by simp only [Ck.upd, if_neg hi]
    have H := Lib.hid HT; clear HT
    clear hi
    go_enter Try.func10, Try.ntmps10
    go_wp2_with (go_at_call 26; refine (at_none w b bl S hand i hi' h).mono ?_; rintro e w' ⟨rfl, rfl⟩)
    go_end0
    exact ⟨rfl, by rw [H.out]; exact h, Frm.refl _ _⟩
end Go.Proofs.Ytcncfloigaiojaa
