/- The document's clock: Use, Pin, Unpin, Many. -/
import Derived.Test.YtcncfloigaiojaaClkF
namespace Go.Proofs.Ytcncfloigaiojaa
open Go Go.RowKit Go.Proofs

set_option maxHeartbeats 400000 in
theorem ruse_any (w : World) (b bt bu bp : Nat) (S : List Slot) (hand : Nat) (i : Int) (h : RefIs w b bt bu bp S hand) :
    Calls Try.prog 28 #[.pointer (some ⟨b, 0, none⟩), .int .i64 i] w (RUpd w b bt bu bp (Ck.upd S i Ck.useF) hand) := by
  obtain ⟨e0, e1, e2, e3, g3⟩ := h.cells
  by_cases hi : 0 ≤ i ∧ i < S.length
  · obtain ⟨n, rfl⟩ := Int.eq_ofNat_of_zero_le hi.1
    have hl : n < S.length := by omega
    have hS := h.store_used n hl true
    obtain ⟨c0, c1, c2, f0, f1, f2⟩ := h.slot n hl
    have HT := Ck.takenB_nat S n hl
    by_cases ht : (Ck.sl S n).taken = true
    · rw [ht] at HT
      have H := Lib.hid HT; clear HT
      have G := Lib.hid (Ck.upd_useF S n ht); clear ht
      go_enter Try.func28, Try.ntmps28
      go_wp2_with (go_at_call 18; refine (rhas_any w b bt bu bp S hand n h).mono ?_; rintro e w' ⟨rfl, rfl⟩; rw [H.out])
      go_end0
      exact ⟨rfl, by rw [G.out]; exact hS, (Frm.refl _ _).setCell (by simp) _⟩
    · have hf : (Ck.sl S n).taken = false := by simpa using ht
      rw [hf] at HT
      have H := Lib.hid HT; clear HT
      have G := Lib.hid (Ck.upd_not S n ht); clear ht hf
      go_enter Try.func28, Try.ntmps28
      go_wp2_with (go_at_call 18; refine (rhas_any w b bt bu bp S hand n h).mono ?_; rintro e w' ⟨rfl, rfl⟩; rw [H.out])
      go_end0
      exact ⟨rfl, by simp only [G.out.1, G.out.2.1, G.out.2.2]; exact h, Frm.refl _ _⟩
  · have H := Lib.hid (Ck.takenB_out S i hi)
    have G := Lib.hid (Ck.upd_out S i Ck.useF hi); clear hi
    go_enter Try.func28, Try.ntmps28
    go_wp2_with (go_at_call 18; refine (rhas_any w b bt bu bp S hand i h).mono ?_; rintro e w' ⟨rfl, rfl⟩; rw [H.out])
    go_end0
    exact ⟨rfl, by rw [G.out]; exact h, Frm.refl _ _⟩
set_option maxHeartbeats 400000 in
theorem rpin_any (w : World) (b bt bu bp : Nat) (S : List Slot) (hand : Nat) (i : Int) (h : RefIs w b bt bu bp S hand) (hp : ∀ n, n < S.length → 0 ≤ (Ck.sl S n).pins ∧ (Ck.sl S n).pins ≤ 4611686018427387904) :
    Calls Try.prog 29 #[.pointer (some ⟨b, 0, none⟩), .int .i64 i] w (RUpd w b bt bu bp (Ck.upd S i Ck.pinF) hand) := by
  obtain ⟨e0, e1, e2, e3, g3⟩ := h.cells
  by_cases hi : 0 ≤ i ∧ i < S.length
  · obtain ⟨n, rfl⟩ := Int.eq_ofNat_of_zero_le hi.1
    have hl : n < S.length := by omega
    have hS := h.store_pins n hl ((Ck.sl S n).pins + 1)
    have hp1 := hp n hl
    clear hp
    obtain ⟨c0, c1, c2, f0, f1, f2⟩ := h.slot n hl
    have HT := Ck.takenB_nat S n hl
    by_cases ht : (Ck.sl S n).taken = true
    · rw [ht] at HT
      have H := Lib.hid HT; clear HT
      have G := Lib.hid (Ck.upd_pinF S n ht); clear ht
      go_enter Try.func29, Try.ntmps29
      go_wp2_with (go_at_call 18; refine (rhas_any w b bt bu bp S hand n h).mono ?_; rintro e w' ⟨rfl, rfl⟩; rw [H.out])
      go_end0
      exact ⟨rfl, by rw [G.out]; exact hS, (Frm.refl _ _).setCell (by simp) _⟩
    · have hf : (Ck.sl S n).taken = false := by simpa using ht
      rw [hf] at HT
      have H := Lib.hid HT; clear HT
      have G := Lib.hid (Ck.upd_not S n ht); clear ht hf
      go_enter Try.func29, Try.ntmps29
      go_wp2_with (go_at_call 18; refine (rhas_any w b bt bu bp S hand n h).mono ?_; rintro e w' ⟨rfl, rfl⟩; rw [H.out])
      go_end0
      exact ⟨rfl, by simp only [G.out.1, G.out.2.1, G.out.2.2]; exact h, Frm.refl _ _⟩
  · have H := Lib.hid (Ck.takenB_out S i hi)
    have G := Lib.hid (Ck.upd_out S i Ck.pinF hi); clear hi
    go_enter Try.func29, Try.ntmps29
    go_wp2_with (go_at_call 18; refine (rhas_any w b bt bu bp S hand i h).mono ?_; rintro e w' ⟨rfl, rfl⟩; rw [H.out])
    go_end0
    exact ⟨rfl, by rw [G.out]; exact h, Frm.refl _ _⟩
theorem unpin_gt (S : List Slot) (n : Nat) (ht : (Ck.sl S n).taken = true) (hp : 0 < (Ck.sl S n).pins) : Ck.upd S n Ck.unpinF = S.modify n (fun s => { s with pins := (Ck.sl S n).pins - 1 }) := by
  rw [Ck.upd_unpinF S n ht]
  have : max ((Ck.sl S n).pins - 1) 0 = (Ck.sl S n).pins - 1 := by omega
  rw [this]
theorem unpin_le (S : List Slot) (n : Nat) (ht : (Ck.sl S n).taken = true) (h0 : 0 ≤ (Ck.sl S n).pins) (hp : ¬ 0 < (Ck.sl S n).pins) : Ck.upd S n Ck.unpinF = S := by
  rw [Ck.upd_nat]
  refine Ck.modify_same _ _ _ ?_
  have h1 : (Ck.sl S n).pins = 0 := by omega
  cases hs : Ck.sl S n with
  | mk t u p =>
    rw [hs] at ht h1
    simp at ht h1
    simp [Ck.unpinF, ht, h1]; omega
set_option maxHeartbeats 400000 in
theorem runpin_any (w : World) (b bt bu bp : Nat) (S : List Slot) (hand : Nat) (i : Int) (h : RefIs w b bt bu bp S hand) (hp : ∀ n, n < S.length → 0 ≤ (Ck.sl S n).pins ∧ (Ck.sl S n).pins ≤ 4611686018427387904) :
    Calls Try.prog 30 #[.pointer (some ⟨b, 0, none⟩), .int .i64 i] w (RUpd w b bt bu bp (Ck.upd S i Ck.unpinF) hand) := by
  obtain ⟨e0, e1, e2, e3, g3⟩ := h.cells
  by_cases hi : 0 ≤ i ∧ i < S.length
  · obtain ⟨n, rfl⟩ := Int.eq_ofNat_of_zero_le hi.1
    have hl : n < S.length := by omega
    have hS := h.store_pins n hl ((Ck.sl S n).pins - 1)
    have hp1 := hp n hl
    clear hp
    obtain ⟨c0, c1, c2, f0, f1, f2⟩ := h.slot n hl
    have HT := Ck.takenB_nat S n hl
    by_cases ht : (Ck.sl S n).taken = true
    · rw [ht] at HT
      have H := Lib.hid HT; clear HT
      by_cases hpp : 0 < (Ck.sl S n).pins
      · have G := Lib.hid (unpin_gt S n ht hpp); clear ht
        go_enter Try.func30, Try.ntmps30
        go_wp2_with (go_at_call 18; refine (rhas_any w b bt bu bp S hand n h).mono ?_; rintro e w' ⟨rfl, rfl⟩; rw [H.out])
        go_end0
        exact ⟨rfl, by rw [G.out]; exact hS, (Frm.refl _ _).setCell (by simp) _⟩
      · have G := Lib.hid (unpin_le S n ht hp1.1 hpp); clear ht
        have hpp' : (Ck.sl S n).pins ≤ 0 := by omega
        clear hpp
        go_enter Try.func30, Try.ntmps30
        go_wp2_with (go_at_call 18; refine (rhas_any w b bt bu bp S hand n h).mono ?_; rintro e w' ⟨rfl, rfl⟩; rw [H.out])
        go_end0
        exact ⟨rfl, by rw [G.out]; exact h, Frm.refl _ _⟩
    · have hf : (Ck.sl S n).taken = false := by simpa using ht
      rw [hf] at HT
      have H := Lib.hid HT; clear HT
      have G := Lib.hid (Ck.upd_not S n ht); clear ht hf
      go_enter Try.func30, Try.ntmps30
      go_wp2_with (go_at_call 18; refine (rhas_any w b bt bu bp S hand n h).mono ?_; rintro e w' ⟨rfl, rfl⟩; rw [H.out])
      go_end0
      exact ⟨rfl, by simp only [G.out.1, G.out.2.1, G.out.2.2]; exact h, Frm.refl _ _⟩
  · have H := Lib.hid (Ck.takenB_out S i hi)
    have G := Lib.hid (Ck.upd_out S i Ck.unpinF hi); clear hi
    go_enter Try.func30, Try.ntmps30
    go_wp2_with (go_at_call 18; refine (rhas_any w b bt bu bp S hand i h).mono ?_; rintro e w' ⟨rfl, rfl⟩; rw [H.out])
    go_end0
    exact ⟨rfl, by rw [G.out]; exact h, Frm.refl _ _⟩
theorem many_snoc (S : List Slot) (k : Nat) (h : k < S.length) : Ck.many (S.take (k + 1)) = Ck.many (S.take k) + if (Ck.sl S k).taken = true then 1 else 0 := by
  unfold Ck.many
  rw [List.take_succ_eq_append_getElem h, List.countP_append, Ck.sl_get S k h]
  simp
set_option maxHeartbeats 400000 in
theorem rmany_any (w : World) (b bt bu bp : Nat) (S : List Slot) (hand : Nat) (h : RefIs w b bt bu bp S hand) (hn : S.length ≤ 4096) :
    Calls Try.prog 16 #[.pointer (some ⟨b, 0, none⟩)] w fun e w' => e = .returned (.int .i64 (Ck.many S)) ∧ w = w' := by
  have hm : ∀ k, Ck.many (S.take k) ≤ 4096 := fun k => Nat.le_trans (List.countP_le_length) (by simp; omega)
  obtain ⟨e0, e1, e2, e3, g3⟩ := h.cells
  go_enter Try.func16, Try.ntmps16
  go_wp2
  go_loop [3, 4] (fun n i => ∃ k : Nat, k ≤ S.length ∧ i = .int .i64 k ∧ n = .int .i64 (Ck.many (S.take k))) (fun _ i => S.length - (intOf i).toNat)
  case atStart => exact ⟨0, Nat.zero_le _, rfl, rfl⟩
  case round =>
    obtain ⟨k, hk, rfl, rfl⟩ := hrel
    have hmk := hm k
    clear hm
    by_cases hlt : k < S.length
    · have HM := Lib.hid (many_snoc S k hlt)
      obtain ⟨c0, c1, c2, f0, f1, f2⟩ := h.slot k hlt
      cases ht : (Ck.sl S k).taken with
      | true =>
        have G := Lib.hid ht
        rw [ht] at c0
        clear ht
        go_wp2
        go_round
        case rel => exact ⟨k + 1, by omega, by go_num, by rw [HM.out, if_pos G.out]; go_num⟩
        case measure => simp [intOf]; omega
      | false =>
        have G := Lib.hid ht
        rw [ht] at c0
        clear ht
        go_wp2
        go_round
        case rel => exact ⟨k + 1, by omega, by go_num, by rw [HM.out, if_neg (by simp [G.out])]; simp⟩
        case measure => simp [intOf]; omega
    · go_wp2
      go_ret
      exact ⟨ret_int (by rw [List.take_of_length_le (by omega)]), rfl⟩
end Go.Proofs.Ytcncfloigaiojaa
