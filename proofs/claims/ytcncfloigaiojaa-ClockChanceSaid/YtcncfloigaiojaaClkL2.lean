/- One deed on both clocks, whichever it is. -/
import Derived.Test.YtcncfloigaiojaaClkL
namespace Go.Proofs.Ytcncfloigaiojaa
open Go Go.RowKit Go.Proofs

/-- both clocks took -/
def BothTook (w : World) (b bl rb rt ru rp : Nat) (r : Int × Bool × List Slot × Nat) (e : Ending) (w' : World) : Prop :=
  e = .returned (.bool true) ∧ ClockIs w' b bl r.2.2.1 r.2.2.2 ∧ RefIs w' rb rt ru rp r.2.2.1 r.2.2.2 ∧ Frm [b, bl, rb, rt, ru, rp] w w'
set_option maxHeartbeats 1000000 in
theorem do_0 (w : World) (b bl rb rt ru rp : Nat) (S : List Slot) (h : Nat) (i : Int) (hC : ClockIs w b bl S h) (hR : RefIs w rb rt ru rp S h) (hn : S.length ≤ 4096) (hh : S.length ≠ 0 → h < S.length) (hp : Pinned S)
    (hd : ∀ x ∈ [b, bl], x ∉ [rb, rt, ru, rp]) :
    Calls Try.prog 12 #[.pointer (some ⟨b, 0, none⟩), .pointer (some ⟨rb, 0, none⟩), .agg #[.int .i64 0, .int .i64 i]] w (BothTook w b bl rb rt ru rp (Ck.take S h)) := by
  have D := Lib.hid hd
  have P := Lib.hid (fun n hn => (hp n hn).1)
  have H := Lib.hid hh
  clear hd hp hh
  go_enter Try.func12, Try.ntmps12
  go_wp2_with fail
  have f0 : Frm [] w (w.alloc (.cells #[.int .i64 0, .int .i64 i] 33)) := (Frm.refl _ _).alloc _
  have hC0 := hC.frm f0 (by simp) (by simp)
  have hR0 := hR.frm f0 (by simp) (by simp) (by simp) (by simp)
  revert f0 hC0 hR0
  generalize w.alloc (.cells #[.int .i64 0, .int .i64 i] 33) = w0
  intro f0 hC0 hR0
  obtain ⟨i', ok, S', h', hr⟩ : ∃ i' ok S' h', Ck.take S h = (i', ok, S', h') := ⟨_, _, _, _, rfl⟩
  have HT := Lib.hid hr
  clear hr
  refine (take_any w0 b bl S h hC0 hn H.out P.out).mono ?_
  rw [HT.out]
  rintro e w1 ⟨rfl, hC1, hf1⟩
  simp only at hC1 ⊢
  have hR1 := hR0.frm hf1 (by have := D.out b (by simp); have := D.out bl (by simp); simp at *; omega) (by have := D.out b (by simp); have := D.out bl (by simp); simp at *; omega)
    (by have := D.out b (by simp); have := D.out bl (by simp); simp at *; omega) (by have := D.out b (by simp); have := D.out bl (by simp); simp at *; omega)
  go_wp2_with fail
  refine (rtake_any w1 rb rt ru rp S h hR1 hn H.out P.out).mono ?_
  rw [HT.out]
  rintro e w2 ⟨rfl, hR2, hf2⟩
  simp only at hR2 ⊢
  go_wp2
  go_ret
  rw [HT.out]
  refine ⟨by simp, hC1.frm hf2 (by have := D.out b (by simp); simp at this ⊢; omega) (by have := D.out bl (by simp); simp at this ⊢; omega), hR2, ?_⟩
  exact (f0.nil.trans hf1 (by simp)).trans hf2 (by simp)
/-- another deed: nothing -/
theorem do_no (w : World) (b bl rb rt ru rp : Nat) (S R : List Slot) (h hr : Nat) (d i : Int) (hd : d < 0 ∨ 5 < d) (hC : ClockIs w b bl S h) (hR : RefIs w rb rt ru rp R hr) :
    Calls Try.prog 12 #[.pointer (some ⟨b, 0, none⟩), .pointer (some ⟨rb, 0, none⟩), .agg #[.int .i64 d, .int .i64 i]] w (Both w b bl rb rt ru rp S R h hr) := by
  have k0 : ((d : Int) == 0) = false := beq_eq_false_iff_ne.2 (by omega)
  have k1 : ((d : Int) == 1) = false := beq_eq_false_iff_ne.2 (by omega)
  have k2 : ((d : Int) == 2) = false := beq_eq_false_iff_ne.2 (by omega)
  have k3 : ((d : Int) == 3) = false := beq_eq_false_iff_ne.2 (by omega)
  have k4 : ((d : Int) == 4) = false := beq_eq_false_iff_ne.2 (by omega)
  have k5 : ((d : Int) == 5) = false := beq_eq_false_iff_ne.2 (by omega)
  have f0 : Frm [] w (w.alloc (.cells #[.int .i64 d, .int .i64 i] 33)) := (Frm.refl _ _).alloc _
  go_enter Try.func12, Try.ntmps12
  go_wp2
  go_ret
  exact ⟨rfl, hC.frm f0 (by simp) (by simp), hR.frm f0 (by simp) (by simp) (by simp) (by simp), f0.nil⟩
/-- a deed that is no Take -/
theorem do_else (w : World) (b bl rb rt ru rp : Nat) (S R : List Slot) (h hr : Nat) (d i : Int) (hd : d ≠ 0) (hC : ClockIs w b bl S h) (hR : RefIs w rb rt ru rp R hr) (hp : Pinned S) (hq : Pinned R)
    (hdis : ∀ x ∈ [b, bl], x ∉ [rb, rt, ru, rp]) :
    Calls Try.prog 12 #[.pointer (some ⟨b, 0, none⟩), .pointer (some ⟨rb, 0, none⟩), .agg #[.int .i64 d, .int .i64 i]] w (Both w b bl rb rt ru rp (deed d i S) (deed d i R) h hr) := by
  by_cases e1 : d = 1
  · subst e1; exact do_1 w b bl rb rt ru rp S R h hr i hC hR hp hq hdis
  by_cases e2 : d = 2
  · subst e2; exact do_2 w b bl rb rt ru rp S R h hr i hC hR hp hq hdis
  by_cases e3 : d = 3
  · subst e3; exact do_3 w b bl rb rt ru rp S R h hr i hC hR hp hq hdis
  by_cases e4 : d = 4
  · subst e4; exact do_4 w b bl rb rt ru rp S R h hr i hC hR hp hq hdis
  by_cases e5 : d = 5
  · subst e5; exact do_5 w b bl rb rt ru rp S R h hr i hC hR hp hq hdis
  have : deed d i S = S ∧ deed d i R = R := by simp [deed, e1, e2, e3, e4, e5]
  rw [this.1, this.2]
  exact do_no w b bl rb rt ru rp S R h hr d i (by omega) hC hR
end Go.Proofs.Ytcncfloigaiojaa
