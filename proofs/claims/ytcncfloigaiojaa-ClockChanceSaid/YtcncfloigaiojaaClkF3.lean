/- The document's clock: New, Take. -/
import Derived.Test.YtcncfloigaiojaaClkF2
namespace Go.Proofs.Ytcncfloigaiojaa
open Go Go.RowKit Go.Proofs

theorem info_bool : (Try.prog.info? 4).map (fun i => (i.zero, i.size, i.bytes)) = some (some (.bool false), 1, 1) := by kernel_rfl
theorem info_int : (Try.prog.info? 3).map (fun i => (i.zero, i.size, i.bytes)) = some (some (.int .i64 0), 1, 8) := by kernel_rfl
theorem made_one (z : Value) (n : Nat) : madeCells #[z] n = (List.replicate n z).toArray := by
  apply Array.ext'
  rw [toList_madeCells_one]
theorem round_taken (k : Nat) : ∀ (S : List Slot) (h : Nat) (r : Nat × List Slot × Nat), Ck.round k S h = some r → r.2.1.map (·.taken) = S.map (·.taken) := by
  induction k with
  | zero => intro S h r e; simp [Ck.round] at e
  | succ k ih =>
    intro S h r e
    unfold Ck.round at e
    split at e
    · exact ih _ _ _ e
    · split at e
      · have := ih _ _ _ e
        rw [this, map_modify_eq]; intro s; rfl
      · cases e; rfl
/-- a new one of the document's -/
def NewRef (w : World) (n : Nat) (e : Ending) (w' : World) : Prop :=
  ∃ b bt bu bp, e = .returned (.pointer (some ⟨b, 0, none⟩)) ∧ w.heap.size ≤ b ∧ w.heap.size ≤ bt ∧ w.heap.size ≤ bu ∧ w.heap.size ≤ bp ∧ RefIs w' b bt bu bp (List.replicate n ⟨false, false, 0⟩) 0 ∧ Frm [] w w'
theorem newref_of (w w' : World) (n b bt bu bp : Nat) (hb : w.heap.size ≤ b ∧ w.heap.size ≤ bt ∧ w.heap.size ≤ bu ∧ w.heap.size ≤ bp) (hn : b ≠ bt ∧ b ≠ bu ∧ b ≠ bp ∧ bt ≠ bu ∧ bt ≠ bp ∧ bu ≠ bp)
    (h0 : w'.heap[b]? = some (.cells #[.slice (some ⟨bt, 0, none⟩) n n, .slice (some ⟨bu, 0, none⟩) n n, .slice (some ⟨bp, 0, none⟩) n n, .int .i64 0] 42 (0, 0)))
    (h1 : w'.heap[bt]? = some (.cells (madeCells #[.bool false] n) 4 (0, 0)))
    (h2 : w'.heap[bu]? = some (.cells (madeCells #[.bool false] n) 4 (0, 0)))
    (h3 : w'.heap[bp]? = some (.cells (madeCells #[.int .i64 0] n) 3 (0, 0))) (hf : Frm [] w w') : NewRef w n (.returned (.pointer (some ⟨b, 0, none⟩))) w' := by
  refine ⟨b, bt, bu, bp, rfl, hb.1, hb.2.1, hb.2.2.1, hb.2.2.2, ⟨hn.1, hn.2.1, hn.2.2.1, hn.2.2.2.1, hn.2.2.2.2.1, hn.2.2.2.2.2, ?_, ?_, ?_, ?_⟩, hf⟩
  · rw [h0]; simp
  · rw [h1, made_one]; simp
  · rw [h2, made_one]; simp
  · rw [h3, made_one]; simp
theorem four_new (w : World) (A B C D : Obj) :
    ((((w.alloc A).alloc B).alloc C).alloc D).drew.heap[w.heap.size]? = some A ∧ ((((w.alloc A).alloc B).alloc C).alloc D).drew.heap[w.heap.size + 1]? = some B ∧ ((((w.alloc A).alloc B).alloc C).alloc D).drew.heap[w.heap.size + 1 + 1]? = some C ∧
    ((((w.alloc A).alloc B).alloc C).alloc D).drew.heap[w.heap.size + 1 + 1 + 1]? = some D ∧ Frm [] w ((((w.alloc A).alloc B).alloc C).alloc D).drew := by
  have e1 : (w.alloc A).heap.size = w.heap.size + 1 := by simp
  have e2 : ((w.alloc A).alloc B).heap.size = w.heap.size + 1 + 1 := by simp
  have e3 : (((w.alloc A).alloc B).alloc C).heap.size = w.heap.size + 1 + 1 + 1 := by simp
  refine ⟨block_alloc (block_alloc (block_alloc (block_new w A) B) C) D, ?_, ?_, ?_, ((((Frm.refl _ _).alloc _).alloc _).alloc _).alloc _ |>.drew⟩
  · have := block_alloc (block_alloc (block_new (w.alloc A) B) C) D
    rw [e1] at this; exact this
  · have := block_alloc (block_new ((w.alloc A).alloc B) C) D
    rw [e2] at this; exact this
  · have := block_new (((w.alloc A).alloc B).alloc C) D
    rw [e3] at this; exact this
set_option maxHeartbeats 4000000 in
theorem rnew_any (w : World) (n : Int) :
    Calls Try.prog 13 #[.int .i64 n] w (NewRef w (Ck.newN n)) := by
  obtain ⟨i0, hi, hz0, hz1, hz2⟩ := info_parts info_bool
  obtain ⟨i1, hi', hz0', hz1', hz2'⟩ := info_parts info_int
  have hmk := fun (n : Int) (h0 : 0 ≤ n) (h1 : n ≤ 64) (w : World) => run_make (P := Try.prog) w 28 4 i0 _ Try.underlying28 hi hz0 .i64 .i64 n n h0 (by omega) (by rw [hz2]; omega) (by omega)
  have hmk' := fun (n : Int) (h0 : 0 ≤ n) (h1 : n ≤ 64) (w : World) => run_make (P := Try.prog) w 40 3 i1 _ Try.underlying40 hi' hz0' .i64 .i64 n n h0 (by omega) (by rw [hz2']; omega) (by omega)
  rw [hz1] at hmk
  rw [hz1'] at hmk'
  by_cases h0 : n < 0
  · have hk := hmk 0 (by omega) (by omega)
    have hk' := hmk' 0 (by omega) (by omega)
    clear hmk hmk' hi hi'
    have H := Lib.hid (show Ck.newN n = 0 by unfold Ck.newN; omega)
    go_enter Try.func13, Try.ntmps13
    go_wp2
    go_region
    all_goals go_wp2
    all_goals go_ret
    all_goals
      rw [H.out]
      exact newref_of w _ 0 _ _ _ _ (by omega) (by omega) (four_new w _ _ _ _).2.2.2.1 (by first | exact (four_new w _ _ _ _).1 | exact (four_new w _ _ _ _).2.1 | exact (four_new w _ _ _ _).2.2.1)
        (by first | exact (four_new w _ _ _ _).1 | exact (four_new w _ _ _ _).2.1 | exact (four_new w _ _ _ _).2.2.1) (by first | exact (four_new w _ _ _ _).1 | exact (four_new w _ _ _ _).2.1 | exact (four_new w _ _ _ _).2.2.1) (four_new w _ _ _ _).2.2.2.2
  by_cases h1 : 64 < n
  · have hk := hmk 64 (by omega) (by omega)
    have hk' := hmk' 64 (by omega) (by omega)
    clear hmk hmk' hi hi'
    have H := Lib.hid (show Ck.newN n = 64 by unfold Ck.newN; omega)
    go_enter Try.func13, Try.ntmps13
    go_wp2
    go_region
    all_goals go_wp2
    all_goals go_ret
    all_goals
      rw [H.out]
      exact newref_of w _ 64 _ _ _ _ (by omega) (by omega) (four_new w _ _ _ _).2.2.2.1 (by first | exact (four_new w _ _ _ _).1 | exact (four_new w _ _ _ _).2.1 | exact (four_new w _ _ _ _).2.2.1)
        (by first | exact (four_new w _ _ _ _).1 | exact (four_new w _ _ _ _).2.1 | exact (four_new w _ _ _ _).2.2.1) (by first | exact (four_new w _ _ _ _).1 | exact (four_new w _ _ _ _).2.1 | exact (four_new w _ _ _ _).2.2.1) (four_new w _ _ _ _).2.2.2.2
  · obtain ⟨m, rfl⟩ := Int.eq_ofNat_of_zero_le (show 0 ≤ n by omega)
    have hk := hmk m (by omega) (by omega)
    have hk' := hmk' m (by omega) (by omega)
    clear hmk hmk' hi hi'
    have H := Lib.hid (show Ck.newN m = m by unfold Ck.newN; omega)
    go_enter Try.func13, Try.ntmps13
    go_wp2
    go_region
    all_goals go_wp2
    all_goals go_ret
    all_goals
      rw [H.out]
      exact newref_of w _ m _ _ _ _ (by omega) (by omega) (four_new w _ _ _ _).2.2.2.1 (by first | exact (four_new w _ _ _ _).1 | exact (four_new w _ _ _ _).2.1 | exact (four_new w _ _ _ _).2.2.1)
        (by first | exact (four_new w _ _ _ _).1 | exact (four_new w _ _ _ _).2.1 | exact (four_new w _ _ _ _).2.2.1) (by first | exact (four_new w _ _ _ _).1 | exact (four_new w _ _ _ _).2.1 | exact (four_new w _ _ _ _).2.2.1) (four_new w _ _ _ _).2.2.2.2
end Go.Proofs.Ytcncfloigaiojaa
