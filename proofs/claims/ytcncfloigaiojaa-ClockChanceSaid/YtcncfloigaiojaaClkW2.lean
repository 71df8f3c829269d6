/- The clock's other methods. -/
import Derived.Test.YtcncfloigaiojaaClkW
import Derived.Test.YtcncfloigaiojaaClkR
import Derived.Deep.LoopGhost
import Derived.RegionTactic
import Derived.ChangeAlike
namespace Go.Proofs.Ytcncfloigaiojaa
open Go Go.RowKit Go.Proofs

set_option maxHeartbeats 400000 in
theorem use_any (w : World) (b bl : Nat) (S : List Slot) (hand : Nat) (i : Int) (h : ClockIs w b bl S hand) :
    Calls Try.prog 9 #[.pointer (some ⟨b, 0, none⟩), .int .i64 i] w (Upd w b bl (Ck.upd S i Ck.useF) hand) := by
  obtain ⟨d0, d1, -⟩ := h.cells
  by_cases hi : 0 ≤ i ∧ i < S.length
  · obtain ⟨n, rfl⟩ := Int.eq_ofNat_of_zero_le hi.1
    have hl : n < S.length := by omega
    have hS := h.store_used n hl true
    obtain ⟨c0, c1, c2, f0, f1, f2⟩ := h.slot n hl
    have HT := Ck.takenB_nat S n hl
    by_cases ht : (Ck.sl S n).taken = true
    · rw [ht] at HT
      have H := Lib.hid HT; clear HT
      have G := Lib.hid (Ck.upd_useF S n ht); clear ht
      go_enter Try.func9, Try.ntmps9
      go_wp2_with (go_at_call 14; refine (taken_any w b bl S hand n h).mono ?_; rintro e w' ⟨rfl, rfl⟩; rw [H.out])
      go_end0
      exact ⟨rfl, by rw [G.out]; exact hS, (Frm.refl _ _).setCell (by simp) _⟩
    · have hf : (Ck.sl S n).taken = false := by simpa using ht
      rw [hf] at HT
      have H := Lib.hid HT; clear HT
      have G := Lib.hid (Ck.upd_not S n ht); clear ht hf
      go_enter Try.func9, Try.ntmps9
      go_wp2_with (go_at_call 14; refine (taken_any w b bl S hand n h).mono ?_; rintro e w' ⟨rfl, rfl⟩; rw [H.out])
      go_end0
      exact ⟨rfl, by simp only [G.out.1, G.out.2.1, G.out.2.2]; exact h, Frm.refl _ _⟩
  · have H := Lib.hid (Ck.takenB_out S i hi)
    have G := Lib.hid (Ck.upd_out S i Ck.useF hi); clear hi
    go_enter Try.func9, Try.ntmps9
    go_wp2_with (go_at_call 14; refine (taken_any w b bl S hand i h).mono ?_; rintro e w' ⟨rfl, rfl⟩; rw [H.out])
    go_end0
    exact ⟨rfl, by rw [G.out]; exact h, Frm.refl _ _⟩
set_option maxHeartbeats 400000 in
theorem pin_any (w : World) (b bl : Nat) (S : List Slot) (hand : Nat) (i : Int) (h : ClockIs w b bl S hand) (hp : ∀ n, n < S.length → 0 ≤ (Ck.sl S n).pins ∧ (Ck.sl S n).pins ≤ 4611686018427387904) :
    Calls Try.prog 11 #[.pointer (some ⟨b, 0, none⟩), .int .i64 i] w (Upd w b bl (Ck.upd S i Ck.pinF) hand) := by
  obtain ⟨d0, d1, -⟩ := h.cells
  by_cases hi : 0 ≤ i ∧ i < S.length
  · obtain ⟨n, rfl⟩ := Int.eq_ofNat_of_zero_le hi.1
    have hl : n < S.length := by omega
    have hS := h.store_pins n hl ((Ck.sl S n).pins + 1)
    have hp1 := hp n hl
    clear hp
    obtain ⟨c0, c1, c2, f0, f1, f2⟩ := h.slot n hl
    have HT := Ck.takenB_nat S n hl
    by_cases ht : (Ck.sl S n).taken = true
    · rw [ht] at HT
      have H := Lib.hid HT; clear HT
      have G := Lib.hid (Ck.upd_pinF S n ht); clear ht
      go_enter Try.func11, Try.ntmps11
      go_wp2_with (go_at_call 14; refine (taken_any w b bl S hand n h).mono ?_; rintro e w' ⟨rfl, rfl⟩; rw [H.out])
      go_end0
      exact ⟨rfl, by rw [G.out]; exact hS, (Frm.refl _ _).setCell (by simp) _⟩
    · have hf : (Ck.sl S n).taken = false := by simpa using ht
      rw [hf] at HT
      have H := Lib.hid HT; clear HT
      have G := Lib.hid (Ck.upd_not S n ht); clear ht hf
      go_enter Try.func11, Try.ntmps11
      go_wp2_with (go_at_call 14; refine (taken_any w b bl S hand n h).mono ?_; rintro e w' ⟨rfl, rfl⟩; rw [H.out])
      go_end0
      exact ⟨rfl, by simp only [G.out.1, G.out.2.1, G.out.2.2]; exact h, Frm.refl _ _⟩
  · have H := Lib.hid (Ck.takenB_out S i hi)
    have G := Lib.hid (Ck.upd_out S i Ck.pinF hi); clear hi
    go_enter Try.func11, Try.ntmps11
    go_wp2_with (go_at_call 14; refine (taken_any w b bl S hand i h).mono ?_; rintro e w' ⟨rfl, rfl⟩; rw [H.out])
    go_end0
    exact ⟨rfl, by rw [G.out]; exact h, Frm.refl _ _⟩
set_option maxHeartbeats 400000 in
theorem many_any (w : World) (b bl : Nat) (S : List Slot) (hand : Nat) (h : ClockIs w b bl S hand) (hn : S.length ≤ 4096) :
    Calls Try.prog 15 #[.pointer (some ⟨b, 0, none⟩)] w fun e w' => e = .returned (.int .i64 (Ck.many S)) ∧ w = w' := by
  have hm : ∀ k, Ck.many (S.take k) ≤ 4096 := fun k => Nat.le_trans (List.countP_le_length) (by simp; omega)
  go_enter Try.func15, Try.ntmps15
  go_wp2
  go_loop [3, 4] (fun n i => ∃ k : Nat, k ≤ S.length ∧ i = .int .i64 k ∧ n = .int .i64 (Ck.many (S.take k))) (fun _ i => S.length - (intOf i).toNat)
  case atStart => exact ⟨0, Nat.zero_le _, rfl, rfl⟩
  case round =>
    obtain ⟨k, hk, rfl, rfl⟩ := hrel
    have hmk := hm k
    clear hm
    by_cases hlt : k < S.length
    · have HT := Ck.takenB_nat S k hlt
      have HM : Ck.many (S.take (k + 1)) = Ck.many (S.take k) + if (Ck.sl S k).taken = true then 1 else 0 := by
        unfold Ck.many
        rw [List.take_succ_eq_append_getElem hlt, List.countP_append]
        simp [Ck.sl_get S k hlt]
      have HM' := Lib.hid HM; clear HM
      by_cases ht : (Ck.sl S k).taken = true
      · rw [ht] at HT
        have H := Lib.hid HT; have G := Lib.hid ht; clear HT ht
        go_wp2_with (first | (go_at_call 26; refine (at_some w b bl S hand k hlt h).mono ?_; rintro e w' ⟨rfl, rfl⟩) | (go_at_call 14; refine (taken_any w b bl S hand k h).mono ?_; rintro e w' ⟨rfl, rfl⟩; rw [H.out]))
        go_round
        case rel => exact ⟨k + 1, by omega, by go_num, by rw [HM'.out, if_pos G.out]; go_num⟩
        case measure => simp [intOf]; omega
      · have hf : (Ck.sl S k).taken = false := by simpa using ht
        rw [hf] at HT
        have H := Lib.hid HT; have G := Lib.hid ht; clear HT ht hf
        go_wp2_with (first | (go_at_call 26; refine (at_some w b bl S hand k hlt h).mono ?_; rintro e w' ⟨rfl, rfl⟩) | (go_at_call 14; refine (taken_any w b bl S hand k h).mono ?_; rintro e w' ⟨rfl, rfl⟩; rw [H.out]))
        go_round
        case rel => exact ⟨k + 1, by omega, by go_num, by rw [HM'.out, if_neg G.out]; simp⟩
        case measure => simp [intOf]; omega
    · have hk' : (k : Int) < 0 ∨ (S.length : Int) ≤ k := by omega
      go_wp2_with (go_at_call 26; refine (at_none w b bl S hand k hk' h).mono ?_; rintro e w' ⟨rfl, rfl⟩)
      go_ret
      exact ⟨ret_int (by rw [List.take_of_length_le (by omega)]), rfl⟩
end Go.Proofs.Ytcncfloigaiojaa
