/- The clock: Take. -/
import Derived.Test.YtcncfloigaiojaaClkW4
namespace Go.Proofs.Ytcncfloigaiojaa
open Go Go.RowKit Go.Proofs

theorem idx_none (S : List Slot) : idxOf S (fun s => !s.taken) = -1 ↔ S.findIdx? (fun s => !s.taken) = none := by
  unfold idxOf
  cases h : S.findIdx? (fun s => !s.taken) <;> simp
def Taken (w : World) (b bl : Nat) (r : Int × Bool × List Slot × Nat) (e : Ending) (w' : World) : Prop :=
  e = .returned (.tuple #[.int .i64 r.1, .bool r.2.1]) ∧ ClockIs w' b bl r.2.2.1 r.2.2.2 ∧ Frm [b, bl] w w'
set_option maxHeartbeats 1000000 in
theorem take_any (w : World) (b bl : Nat) (S : List Slot) (hand : Nat) (h : ClockIs w b bl S hand) (hn : S.length ≤ 4096) (hh : S.length ≠ 0 → hand < S.length) (hp : ∀ n, n < S.length → 0 ≤ (Ck.sl S n).pins) :
    Calls Try.prog 8 #[.pointer (some ⟨b, 0, none⟩)] w (Taken w b bl (Ck.take S hand)) := by
  obtain ⟨c0, c1, f1⟩ := h.cells
  cases hi : S.findIdx? (fun s => !s.taken) with
  | some i =>
    have hx : idxOf S (fun s => !s.taken) = i := by simp [idxOf, hi]
    have ht : Ck.take S hand = ((i : Int), true, Ck.upd S i Ck.setF, hand) := by simp [Ck.take, hi]
    have H := Lib.hid hx
    have G := Lib.hid ht
    clear hi hx ht hp hh
    go_enter Try.func8, Try.ntmps8
    go_wp2_with (go_at_call 21; refine (indexFunc_slot w b bl S hand _ _ enter1 clo1 h hn).mono ?_; rintro e w1 ⟨rfl, hf⟩; rw [H.out])
    have h1 := h.frm hf (by simp) (by simp)
    go_wp2_with (go_at_call 10; refine (set_any _ b bl S hand i h1).mono ?_; rintro e w2 ⟨rfl, h2, hf2⟩)
    go_ret2
    rw [G.out]
    exact ⟨rfl, h2, (hf.nil).trans hf2 (by simp)⟩
  | none =>
    have hx : idxOf S (fun s => !s.taken) = -1 := by simp [idxOf, hi]
    have H := Lib.hid hx
    clear hx
    cases ha : S.any (fun s => s.pins == 0) with
    | false =>
      have ht : Ck.take S hand = (0, false, S, hand) := by simp only [Ck.take, hi, ha]; rfl
      have G := Lib.hid ht
      have A := Lib.hid ha
      clear hi ht hp hh ha
      go_enter Try.func8, Try.ntmps8
      go_wp2_with (go_at_call 21; refine (indexFunc_slot w b bl S hand _ _ enter1 clo1 h hn).mono ?_; rintro e w1 ⟨rfl, hf⟩; rw [H.out]; have h1 := h.frm hf (by simp) (by simp); obtain ⟨d0, d1, g1⟩ := h1.cells)
      go_wp2_with (go_at_call 23; refine (contains_slot _ b bl S hand h1 hn).mono ?_; rintro e w2 ⟨rfl, hf2⟩; rw [A.out])
      go_ret2
      rw [G.out]
      exact ⟨rfl, h1.frm hf2 (by simp) (by simp), (hf.trans' hf2).nil⟩
    | true =>
      have hne : S.length ≠ 0 := by intro h0; have : S = [] := List.eq_nil_of_length_eq_zero h0; subst this; simp at ha
      have hlt := hh hne
      obtain ⟨r, hr⟩ := Ck.round_total S hand hlt (any_pins S hp ha)
      have ht : Ck.take S hand = ((r.1 : Int), true, Ck.upd r.2.1 r.1 Ck.setF, r.2.2) := by simp only [Ck.take, hi, ha, hr]; rfl
      have G := Lib.hid ht
      have A := Lib.hid ha
      have R := Lib.hid hr
      clear hi ht hp hh ha hne hr
      go_enter Try.func8, Try.ntmps8
      go_wp2_with (go_at_call 21; refine (indexFunc_slot w b bl S hand _ _ enter1 clo1 h hn).mono ?_; rintro e w1 ⟨rfl, hf⟩; rw [H.out]; have h1 := h.frm hf (by simp) (by simp); obtain ⟨d0, d1, g1⟩ := h1.cells)
      go_wp2_with (go_at_call 23; refine (contains_slot _ b bl S hand h1 hn).mono ?_; rintro e w2 ⟨rfl, hf2⟩; rw [A.out])
      have h2 := h1.frm hf2 (by simp) (by simp)
      go_wp2_with (go_at_call 25; refine (round_any _ b bl S hand r _ h2 hlt hn R.out).mono ?_; rintro e w3 ⟨rfl, h3, hf3⟩)
      go_wp2_with (go_at_call 10; refine (set_any _ b bl r.2.1 r.2.2 r.1 h3).mono ?_; rintro e w4 ⟨rfl, h4, hf4⟩)
      go_ret2
      rw [G.out]
      exact ⟨rfl, h4, ((hf.trans' hf2).nil.trans hf3 (by simp)).trans hf4 (by simp)⟩
theorem take_nil (w : World) : Calls Try.prog 8 #[.pointer none] w fun e w' => e = .returned (.tuple #[.int .i64 0, .bool false]) ∧ w = w' := by
  go_enter Try.func8, Try.ntmps8
  go_wp2
  go_ret2
  exact ⟨rfl, rfl⟩
end Go.Proofs.Ytcncfloigaiojaa
