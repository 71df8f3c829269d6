/- The clock: Unpin, Free, New. -/
import Derived.Test.YtcncfloigaiojaaClkW2
import Derived.BigRegion
namespace Go.Proofs.Ytcncfloigaiojaa
open Go Go.RowKit Go.Proofs

theorem mx_eq (x : Int) : (if x < 0 then 0 else x) = max x 0 := by omega
set_option maxHeartbeats 400000 in
theorem unpin_any (w : World) (b bl : Nat) (S : List Slot) (hand : Nat) (i : Int) (h : ClockIs w b bl S hand) (hp : ∀ n, n < S.length → 0 ≤ (Ck.sl S n).pins ∧ (Ck.sl S n).pins ≤ 4611686018427387904) :
    Calls Try.prog 19 #[.pointer (some ⟨b, 0, none⟩), .int .i64 i] w (Upd w b bl (Ck.upd S i Ck.unpinF) hand) := by
  obtain ⟨d0, d1, -⟩ := h.cells
  by_cases hi : 0 ≤ i ∧ i < S.length
  · obtain ⟨n, rfl⟩ := Int.eq_ofNat_of_zero_le hi.1
    have hl : n < S.length := by omega
    have hS := Lib.hid (h.store_pins n hl (max ((Ck.sl S n).pins - 1) 0))
    have hmx := Lib.hid (mx_eq ((Ck.sl S n).pins - 1))
    have hp1 := hp n hl
    clear hp
    obtain ⟨c0, c1, c2, f0, f1, f2⟩ := h.slot n hl
    have HT := Ck.takenB_nat S n hl
    by_cases ht : (Ck.sl S n).taken = true
    · rw [ht] at HT
      have H := Lib.hid HT; clear HT
      have G := Lib.hid (Ck.upd_unpinF S n ht); clear ht
      go_enter Try.func19, Try.ntmps19
      go_wp2_with (go_at_call 14; refine (taken_any w b bl S hand n h).mono ?_; rintro e w' ⟨rfl, rfl⟩; rw [H.out])
      go_region
      go_end0
      refine ⟨rfl, ?_, ?_⟩
      · rw [G.out, hmx.out]; have := hS.out; exact ⟨this.ne, this.top, this.row⟩
      · exact ((Frm.refl _ _).setCell (by simp) _).drew
    · have hf : (Ck.sl S n).taken = false := by simpa using ht
      rw [hf] at HT
      have H := Lib.hid HT; clear HT
      have G := Lib.hid (Ck.upd_not S n ht); clear ht hf
      go_enter Try.func19, Try.ntmps19
      go_wp2_with (go_at_call 14; refine (taken_any w b bl S hand n h).mono ?_; rintro e w' ⟨rfl, rfl⟩; rw [H.out])
      go_end0
      exact ⟨rfl, by simp only [G.out.1, G.out.2.1, G.out.2.2]; exact h, Frm.refl _ _⟩
  · have H := Lib.hid (Ck.takenB_out S i hi)
    have G := Lib.hid (Ck.upd_out S i Ck.unpinF hi); clear hi
    go_enter Try.func19, Try.ntmps19
    go_wp2_with (go_at_call 14; refine (taken_any w b bl S hand i h).mono ?_; rintro e w' ⟨rfl, rfl⟩; rw [H.out])
    go_end0
    exact ⟨rfl, by rw [G.out]; exact h, Frm.refl _ _⟩
set_option maxHeartbeats 400000 in
theorem free_any (w : World) (b bl : Nat) (S : List Slot) (hand : Nat) (i : Int) (h : ClockIs w b bl S hand) :
    Calls Try.prog 20 #[.pointer (some ⟨b, 0, none⟩), .int .i64 i] w (Upd w b bl (Ck.upd S i Ck.freeF) hand) := by
  by_cases hi : 0 ≤ i ∧ i < S.length
  · obtain ⟨n, rfl⟩ := Int.eq_ofNat_of_zero_le hi.1
    have hl : n < S.length := by omega
    obtain ⟨c0, c1, c2, f0, f1, f2⟩ := h.slot n hl
    go_enter Try.func20, Try.ntmps20
    go_wp2_with (go_at_call 26; refine (at_some w b bl S hand n hl h).mono ?_; rintro e w' ⟨rfl, rfl⟩)
    go_end0
    refine ⟨rfl, ?_, ?_⟩
    · rw [Ck.upd_nat]
      have h1 := (h.store_taken_used n hl false false).store_pins n (by simpa using hl) 0
      rw [List.modify_modify_eq] at h1
      exact h1
    · exact (((Frm.refl _ _).setCell (by simp) _).setCell (by simp) _).setCell (by simp) _
  · have hi' : i < 0 ∨ S.length ≤ i := by omega
    have H := Lib.hid (Ck.upd_out S i Ck.freeF hi)
    clear hi
    go_enter Try.func20, Try.ntmps20
    go_wp2_with (go_at_call 26; refine (at_none w b bl S hand i hi' h).mono ?_; rintro e w' ⟨rfl, rfl⟩)
    go_end0
    exact ⟨rfl, by rw [H.out]; exact h, Frm.refl _ _⟩
theorem info_slot : (Try.prog.info? 49).map (fun i => (i.zero, i.size, i.bytes)) = some (some (.agg #[.bool false, .bool false, .int .i64 0]), 3, 16) := by kernel_rfl
theorem made_slots (n : Nat) : madeCells #[.bool false, .bool false, .int .i64 0] (n * 3) = (flat (List.replicate n ⟨false, false, 0⟩)).toArray := by
  apply Array.ext'
  apply List.ext_getElem?
  intro i
  by_cases h : i < n * 3
  · have e : i = 3 * (i / 3) + i % 3 := by omega
    have hj : i / 3 < (List.replicate n (⟨false, false, 0⟩ : Slot)).length := by simp; omega
    have := flat_get (List.replicate n ⟨false, false, 0⟩) (i / 3) hj
    rw [Ck.sl_get _ _ hj, List.getElem_replicate] at this
    have h3 : i % 3 = 0 ∨ i % 3 = 1 ∨ i % 3 = 2 := by omega
    have hl : ((madeCells #[.bool false, .bool false, .int .i64 0] (n * 3)).toList)[i]? = some (#[Value.bool false, .bool false, .int .i64 0][i % 3]!) := by
      simp [madeCells, h]
    rw [hl]
    rcases h3 with h3 | h3 | h3 <;> rw [h3] at e ⊢ <;> rw [e]
    · exact this.1.symm
    · exact this.2.1.symm
    · exact this.2.2.symm
  · rw [List.getElem?_eq_none (by simp [size_madeCells]; omega), List.getElem?_eq_none (by simp [flat_length]; omega)]
/-- a new clock -/
def NewClk (w : World) (n : Nat) (e : Ending) (w' : World) : Prop :=
  ∃ b bl, e = .returned (.pointer (some ⟨b, 0, none⟩)) ∧ w.heap.size ≤ b ∧ w.heap.size ≤ bl ∧ ClockIs w' b bl (List.replicate n ⟨false, false, 0⟩) 0 ∧ Frm [] w w'
theorem newclk_of (w : World) (n : Nat) :
    ClockIs ((w.alloc (.cells (madeCells #[.bool false, .bool false, .int .i64 0] (n * 3)) 49)).alloc (.cells #[.slice (some ⟨w.heap.size, 0, none⟩) n n, .int .i64 0] 46)) (w.heap.size + 1) w.heap.size (List.replicate n ⟨false, false, 0⟩) 0 := by
  refine ⟨by omega, ?_, ?_⟩
  · rw [show w.heap.size + 1 = (w.alloc (.cells (madeCells #[.bool false, .bool false, .int .i64 0] (n * 3)) 49)).heap.size from by simp, block_new]; simp
  · rw [block_alloc (block_new _ _), made_slots]
set_option maxHeartbeats 400000 in
theorem new_any (w : World) (n : Int) :
    Calls Try.prog 7 #[.int .i64 n] w (NewClk w (Ck.newN n)) := by
  obtain ⟨i0, hi, hz0, hz1, hz2⟩ := info_parts info_slot
  have hmk := fun (n : Int) (h0 : 0 ≤ n) (h1 : n ≤ 64) (w : World) => run_make (P := Try.prog) w 44 49 i0 _ Try.underlying44 hi hz0 .i64 .i64 n n h0 (by omega) (by rw [hz2]; omega) (by omega)
  rw [hz1] at hmk
  by_cases h0 : n < 0
  · have hk := hmk 0 (by omega) (by omega)
    clear hmk
    have H := Lib.hid (show Ck.newN n = 0 by unfold Ck.newN; omega)
    go_enter Try.func7, Try.ntmps7
    go_wp2
    go_ret
    rw [H.out]
    exact ⟨_, _, rfl, by omega, by omega, newclk_of w 0, ((Frm.refl _ _).alloc _).alloc _⟩
  · by_cases h1 : 64 < n
    · have hk := hmk 64 (by omega) (by omega)
      clear hmk
      have H := Lib.hid (show Ck.newN n = 64 by unfold Ck.newN; omega)
      go_enter Try.func7, Try.ntmps7
      go_wp2
      go_ret
      rw [H.out]
      exact ⟨_, _, rfl, by omega, by omega, newclk_of w 64, ((Frm.refl _ _).alloc _).alloc _⟩
    · obtain ⟨m, rfl⟩ := Int.eq_ofNat_of_zero_le (show 0 ≤ n by omega)
      have hk := hmk m (by omega) (by omega)
      clear hmk
      have H := Lib.hid (show Ck.newN m = m by unfold Ck.newN; omega)
      go_enter Try.func7, Try.ntmps7
      go_wp2
      go_ret
      rw [H.out]
      exact ⟨_, _, rfl, by omega, by omega, newclk_of w m, ((Frm.refl _ _).alloc _).alloc _⟩
end Go.Proofs.Ytcncfloigaiojaa
