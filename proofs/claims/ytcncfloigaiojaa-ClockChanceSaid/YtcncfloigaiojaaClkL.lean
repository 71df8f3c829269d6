/- The law's helpers: the page's example, and one deed on both clocks. -/
import Derived.Test.YtcncfloigaiojaaClkF4
namespace Go.Proofs.Ytcncfloigaiojaa
open Go Go.RowKit Go.Proofs

theorem use_nil (w : World) (i : Int) : Calls Try.prog 9 #[.pointer none, .int .i64 i] w fun e w' => e = .returned (.tuple #[]) ∧ w = w' := by
  go_enter Try.func9, Try.ntmps9
  go_wp2_with (go_at_call 14; refine (taken_nil w i).mono ?_; rintro e w' ⟨rfl, rfl⟩)
  go_end0
  exact ⟨rfl, rfl⟩
theorem pin_nil (w : World) (i : Int) : Calls Try.prog 11 #[.pointer none, .int .i64 i] w fun e w' => e = .returned (.tuple #[]) ∧ w = w' := by
  go_enter Try.func11, Try.ntmps11
  go_wp2_with (go_at_call 14; refine (taken_nil w i).mono ?_; rintro e w' ⟨rfl, rfl⟩)
  go_end0
  exact ⟨rfl, rfl⟩
theorem unpin_nil (w : World) (i : Int) : Calls Try.prog 19 #[.pointer none, .int .i64 i] w fun e w' => e = .returned (.tuple #[]) ∧ w = w' := by
  go_enter Try.func19, Try.ntmps19
  go_wp2_with (go_at_call 14; refine (taken_nil w i).mono ?_; rintro e w' ⟨rfl, rfl⟩)
  go_end0
  exact ⟨rfl, rfl⟩
theorem free_nil (w : World) (i : Int) : Calls Try.prog 20 #[.pointer none, .int .i64 i] w fun e w' => e = .returned (.tuple #[]) ∧ w = w' := by
  go_enter Try.func20, Try.ntmps20
  go_wp2_with (go_at_call 26; refine (at_nil w i).mono ?_; rintro e w' ⟨rfl, rfl⟩)
  go_end0
  exact ⟨rfl, rfl⟩
theorem set_nil (w : World) (i : Int) : Calls Try.prog 10 #[.pointer none, .int .i64 i] w fun e w' => e = .returned (.tuple #[]) ∧ w = w' := by
  go_enter Try.func10, Try.ntmps10
  go_wp2_with (go_at_call 26; refine (at_nil w i).mono ?_; rintro e w' ⟨rfl, rfl⟩)
  go_end0
  exact ⟨rfl, rfl⟩
theorem many_nil (w : World) : Calls Try.prog 15 #[.pointer none] w fun e w' => e = .returned (.int .i64 0) ∧ w = w' := by
  go_enter Try.func15, Try.ntmps15
  go_wp2
  go_loop [3, 4] (fun n i => n = .int .i64 0 ∧ i = .int .i64 0) (fun _ _ => 0)
  case atStart => exact ⟨rfl, rfl⟩
  case round =>
    obtain ⟨rfl, rfl⟩ := hrel
    go_wp2_with (go_at_call 26; refine (at_nil w 0).mono ?_; rintro e w' ⟨rfl, rfl⟩)
    go_ret
    exact ⟨rfl, rfl⟩

/-- the slots of a clock of two, behind nothing, one, two, three takes -/
def live0 : List Slot := [⟨false, false, 0⟩, ⟨false, false, 0⟩]
def live1 : List Slot := [⟨true, true, 0⟩, ⟨false, false, 0⟩]
def live2 : List Slot := [⟨true, true, 0⟩, ⟨true, true, 0⟩]
def live3 : List Slot := [⟨true, true, 0⟩, ⟨true, false, 0⟩]
theorem livet0 : Ck.take live0 0 = (0, true, live1, 0) := rfl
theorem livet1 : Ck.take live1 0 = (1, true, live2, 0) := rfl
theorem livet2 : Ck.take live2 0 = (0, true, live3, 1) := rfl
theorem livem : Ck.many live3 = 2 := rfl
theorem livep (S : List Slot) (h : S.all (fun s => s.pins == 0) = true) : ∀ n, n < S.length → 0 ≤ (Ck.sl S n).pins := by
  intro n hn
  have := List.all_eq_true.1 h (Ck.sl S n) (by rw [Ck.sl_get S n hn]; exact List.getElem_mem _)
  have : (Ck.sl S n).pins = 0 := by simpa using this
  omega
set_option maxHeartbeats 1000000 in
theorem live_any (w : World) : Calls Try.prog 6 #[] w (Gives w (.bool true)) := by
  have T0 := Lib.hid livet0
  have T1 := Lib.hid livet1
  have T2 := Lib.hid livet2
  have TM := Lib.hid livem
  go_enter Try.func6, Try.ntmps6
  go_wp2_with (go_at_call 7; refine (new_any w 2).mono ?_; rintro e w1 ⟨b, bl, rfl, hb, hbl, hC, hf⟩)
  have h0 : ClockIs w1 b bl live0 0 := hC
  clear hC
  go_wp2_with fail
  refine (take_any w1 b bl live0 0 h0 (by decide) (by decide) (livep _ rfl)).mono ?_
  rw [T0.out]
  rintro e w2 ⟨rfl, h1, hf1⟩
  simp only
  go_wp2_with fail
  refine (take_any w2 b bl live1 0 h1 (by decide) (by decide) (livep _ rfl)).mono ?_
  rw [T1.out]
  rintro e w3 ⟨rfl, h2, hf2⟩
  simp only
  go_wp2_with fail
  refine (take_any w3 b bl live2 0 h2 (by decide) (by decide) (livep _ rfl)).mono ?_
  rw [T2.out]
  rintro e w4 ⟨rfl, h3, hf3⟩
  simp only
  go_wp2_with (go_at_call 15; refine (many_any w4 b bl live3 1 h3 (by decide)).mono ?_; rw [TM.out]; rintro e w5 ⟨rfl, rfl⟩)
  go_ret
  refine ⟨rfl, ?_⟩
  have hx : ∀ x ∈ [b, bl], x ∈ ([] : List Nat) ∨ w.heap.size ≤ x := by simp; omega
  exact ((hf.trans hf1 hx).trans hf2 hx).trans hf3 hx
/-- what a deed does: 0 takes, 1 uses, 2 pins, 3 unpins, 4 frees, 5 sets -/
def deed (d i : Int) (S : List Slot) : List Slot :=
  if d = 1 then Ck.upd S i Ck.useF else if d = 2 then Ck.upd S i Ck.pinF else if d = 3 then Ck.upd S i Ck.unpinF else if d = 4 then Ck.upd S i Ck.freeF else if d = 5 then Ck.upd S i Ck.setF else S
/-- pins that a deed more does not carry over -/
def Pinned (S : List Slot) : Prop := ∀ n, n < S.length → 0 ≤ (Ck.sl S n).pins ∧ (Ck.sl S n).pins ≤ 4611686018427387904
/-- a deed that is no Take, on both clocks -/
def Both (w : World) (b bl rb rt ru rp : Nat) (S R : List Slot) (h hr : Nat) (e : Ending) (w' : World) : Prop :=
  e = .returned (.bool true) ∧ ClockIs w' b bl S h ∧ RefIs w' rb rt ru rp R hr ∧ Frm [b, bl, rb, rt, ru, rp] w w'
set_option maxHeartbeats 1000000 in
theorem do_1 (w : World) (b bl rb rt ru rp : Nat) (S R : List Slot) (h hr : Nat) (i : Int) (hC : ClockIs w b bl S h) (hR : RefIs w rb rt ru rp R hr) (hp : Pinned S) (hq : Pinned R)
    (hd : ∀ x ∈ [b, bl], x ∉ [rb, rt, ru, rp]) :
    Calls Try.prog 12 #[.pointer (some ⟨b, 0, none⟩), .pointer (some ⟨rb, 0, none⟩), .agg #[.int .i64 1, .int .i64 i]] w (Both w b bl rb rt ru rp (Ck.upd S i Ck.useF) (Ck.upd R i Ck.useF) h hr) := by
  have D := Lib.hid hd
  have P := Lib.hid hp
  have Q := Lib.hid hq
  clear hd hp hq
  go_enter Try.func12, Try.ntmps12
  go_wp2_with fail
  have f0 : Frm [] w (w.alloc (.cells #[.int .i64 1, .int .i64 i] 33)) := (Frm.refl _ _).alloc _
  have g0 := block_new w (.cells #[.int .i64 1, .int .i64 i] 33)
  have hC0 := hC.frm f0 (by simp) (by simp)
  have hR0 := hR.frm f0 (by simp) (by simp) (by simp) (by simp)
  have hlt := hC.size
  revert f0 g0 hC0 hR0
  generalize w.alloc (.cells #[.int .i64 1, .int .i64 i] 33) = w0
  intro f0 g0 hC0 hR0
  refine (use_any w0 b bl S h i hC0).mono ?_
  rintro e w1 ⟨rfl, hC1, hf1⟩
  have hb : w.heap.size ∉ [bl] := by simp; omega
  have hx : w1.cell? ⟨w.heap.size, 1, none⟩ = some (.int .i64 i) := by simp [World.cell?, hf1.get g0 hb]
  have hR1 := hR0.frm hf1 (by have := D.out bl (by simp); simp at this ⊢; omega) (by have := D.out bl (by simp); simp at this ⊢; omega) (by have := D.out bl (by simp); simp at this ⊢; omega) (by have := D.out bl (by simp); simp at this ⊢; omega)
  go_wp2_with (go_at_call 28; refine (ruse_any w1 rb rt ru rp R hr i hR1).mono ?_; rintro e w2 ⟨rfl, hR2, hf2⟩)
  go_ret
  refine ⟨rfl, hC1.frm hf2 (by have := D.out b (by simp); simp at this ⊢; omega) (by have := D.out bl (by simp); simp at this ⊢; omega), hR2, ?_⟩
  exact (f0.nil.trans hf1 (by simp)).trans hf2 (by simp)
set_option maxHeartbeats 1000000 in
theorem do_2 (w : World) (b bl rb rt ru rp : Nat) (S R : List Slot) (h hr : Nat) (i : Int) (hC : ClockIs w b bl S h) (hR : RefIs w rb rt ru rp R hr) (hp : Pinned S) (hq : Pinned R)
    (hd : ∀ x ∈ [b, bl], x ∉ [rb, rt, ru, rp]) :
    Calls Try.prog 12 #[.pointer (some ⟨b, 0, none⟩), .pointer (some ⟨rb, 0, none⟩), .agg #[.int .i64 2, .int .i64 i]] w (Both w b bl rb rt ru rp (Ck.upd S i Ck.pinF) (Ck.upd R i Ck.pinF) h hr) := by
  have D := Lib.hid hd
  have P := Lib.hid hp
  have Q := Lib.hid hq
  clear hd hp hq
  go_enter Try.func12, Try.ntmps12
  go_wp2_with fail
  have f0 : Frm [] w (w.alloc (.cells #[.int .i64 2, .int .i64 i] 33)) := (Frm.refl _ _).alloc _
  have g0 := block_new w (.cells #[.int .i64 2, .int .i64 i] 33)
  have hC0 := hC.frm f0 (by simp) (by simp)
  have hR0 := hR.frm f0 (by simp) (by simp) (by simp) (by simp)
  have hlt := hC.size
  revert f0 g0 hC0 hR0
  generalize w.alloc (.cells #[.int .i64 2, .int .i64 i] 33) = w0
  intro f0 g0 hC0 hR0
  refine (pin_any w0 b bl S h i hC0 P.out).mono ?_
  rintro e w1 ⟨rfl, hC1, hf1⟩
  have hb : w.heap.size ∉ [bl] := by simp; omega
  have hx : w1.cell? ⟨w.heap.size, 1, none⟩ = some (.int .i64 i) := by simp [World.cell?, hf1.get g0 hb]
  have hR1 := hR0.frm hf1 (by have := D.out bl (by simp); simp at this ⊢; omega) (by have := D.out bl (by simp); simp at this ⊢; omega) (by have := D.out bl (by simp); simp at this ⊢; omega) (by have := D.out bl (by simp); simp at this ⊢; omega)
  go_wp2_with (go_at_call 29; refine (rpin_any w1 rb rt ru rp R hr i hR1 Q.out).mono ?_; rintro e w2 ⟨rfl, hR2, hf2⟩)
  go_ret
  refine ⟨rfl, hC1.frm hf2 (by have := D.out b (by simp); simp at this ⊢; omega) (by have := D.out bl (by simp); simp at this ⊢; omega), hR2, ?_⟩
  exact (f0.nil.trans hf1 (by simp)).trans hf2 (by simp)
set_option maxHeartbeats 1000000 in
theorem do_3 (w : World) (b bl rb rt ru rp : Nat) (S R : List Slot) (h hr : Nat) (i : Int) (hC : ClockIs w b bl S h) (hR : RefIs w rb rt ru rp R hr) (hp : Pinned S) (hq : Pinned R)
    (hd : ∀ x ∈ [b, bl], x ∉ [rb, rt, ru, rp]) :
    Calls Try.prog 12 #[.pointer (some ⟨b, 0, none⟩), .pointer (some ⟨rb, 0, none⟩), .agg #[.int .i64 3, .int .i64 i]] w (Both w b bl rb rt ru rp (Ck.upd S i Ck.unpinF) (Ck.upd R i Ck.unpinF) h hr) := by
  have D := Lib.hid hd
  have P := Lib.hid hp
  have Q := Lib.hid hq
  clear hd hp hq
  go_enter Try.func12, Try.ntmps12
  go_wp2_with fail
  have f0 : Frm [] w (w.alloc (.cells #[.int .i64 3, .int .i64 i] 33)) := (Frm.refl _ _).alloc _
  have g0 := block_new w (.cells #[.int .i64 3, .int .i64 i] 33)
  have hC0 := hC.frm f0 (by simp) (by simp)
  have hR0 := hR.frm f0 (by simp) (by simp) (by simp) (by simp)
  have hlt := hC.size
  revert f0 g0 hC0 hR0
  generalize w.alloc (.cells #[.int .i64 3, .int .i64 i] 33) = w0
  intro f0 g0 hC0 hR0
  refine (unpin_any w0 b bl S h i hC0 P.out).mono ?_
  rintro e w1 ⟨rfl, hC1, hf1⟩
  have hb : w.heap.size ∉ [bl] := by simp; omega
  have hx : w1.cell? ⟨w.heap.size, 1, none⟩ = some (.int .i64 i) := by simp [World.cell?, hf1.get g0 hb]
  have hR1 := hR0.frm hf1 (by have := D.out bl (by simp); simp at this ⊢; omega) (by have := D.out bl (by simp); simp at this ⊢; omega) (by have := D.out bl (by simp); simp at this ⊢; omega) (by have := D.out bl (by simp); simp at this ⊢; omega)
  go_wp2_with (go_at_call 30; refine (runpin_any w1 rb rt ru rp R hr i hR1 Q.out).mono ?_; rintro e w2 ⟨rfl, hR2, hf2⟩)
  go_ret
  refine ⟨rfl, hC1.frm hf2 (by have := D.out b (by simp); simp at this ⊢; omega) (by have := D.out bl (by simp); simp at this ⊢; omega), hR2, ?_⟩
  exact (f0.nil.trans hf1 (by simp)).trans hf2 (by simp)
set_option maxHeartbeats 1000000 in
theorem do_4 (w : World) (b bl rb rt ru rp : Nat) (S R : List Slot) (h hr : Nat) (i : Int) (hC : ClockIs w b bl S h) (hR : RefIs w rb rt ru rp R hr) (hp : Pinned S) (hq : Pinned R)
    (hd : ∀ x ∈ [b, bl], x ∉ [rb, rt, ru, rp]) :
    Calls Try.prog 12 #[.pointer (some ⟨b, 0, none⟩), .pointer (some ⟨rb, 0, none⟩), .agg #[.int .i64 4, .int .i64 i]] w (Both w b bl rb rt ru rp (Ck.upd S i Ck.freeF) (Ck.upd R i Ck.freeF) h hr) := by
  have D := Lib.hid hd
  have P := Lib.hid hp
  have Q := Lib.hid hq
  clear hd hp hq
  go_enter Try.func12, Try.ntmps12
  go_wp2_with fail
  have f0 : Frm [] w (w.alloc (.cells #[.int .i64 4, .int .i64 i] 33)) := (Frm.refl _ _).alloc _
  have g0 := block_new w (.cells #[.int .i64 4, .int .i64 i] 33)
  have hC0 := hC.frm f0 (by simp) (by simp)
  have hR0 := hR.frm f0 (by simp) (by simp) (by simp) (by simp)
  have hlt := hC.size
  revert f0 g0 hC0 hR0
  generalize w.alloc (.cells #[.int .i64 4, .int .i64 i] 33) = w0
  intro f0 g0 hC0 hR0
  refine (free_any w0 b bl S h i hC0).mono ?_
  rintro e w1 ⟨rfl, hC1, hf1⟩
  have hb : w.heap.size ∉ [bl] := by simp; omega
  have hx : w1.cell? ⟨w.heap.size, 1, none⟩ = some (.int .i64 i) := by simp [World.cell?, hf1.get g0 hb]
  have hR1 := hR0.frm hf1 (by have := D.out bl (by simp); simp at this ⊢; omega) (by have := D.out bl (by simp); simp at this ⊢; omega) (by have := D.out bl (by simp); simp at this ⊢; omega) (by have := D.out bl (by simp); simp at this ⊢; omega)
  go_wp2_with (go_at_call 31; refine (rfree_any w1 rb rt ru rp R hr i hR1).mono ?_; rintro e w2 ⟨rfl, hR2, hf2⟩)
  go_ret
  refine ⟨rfl, hC1.frm hf2 (by have := D.out b (by simp); simp at this ⊢; omega) (by have := D.out bl (by simp); simp at this ⊢; omega), hR2, ?_⟩
  exact (f0.nil.trans hf1 (by simp)).trans hf2 (by simp)
set_option maxHeartbeats 1000000 in
theorem do_5 (w : World) (b bl rb rt ru rp : Nat) (S R : List Slot) (h hr : Nat) (i : Int) (hC : ClockIs w b bl S h) (hR : RefIs w rb rt ru rp R hr) (hp : Pinned S) (hq : Pinned R)
    (hd : ∀ x ∈ [b, bl], x ∉ [rb, rt, ru, rp]) :
    Calls Try.prog 12 #[.pointer (some ⟨b, 0, none⟩), .pointer (some ⟨rb, 0, none⟩), .agg #[.int .i64 5, .int .i64 i]] w (Both w b bl rb rt ru rp (Ck.upd S i Ck.setF) (Ck.upd R i Ck.setF) h hr) := by
  have D := Lib.hid hd
  have P := Lib.hid hp
  have Q := Lib.hid hq
  clear hd hp hq
  go_enter Try.func12, Try.ntmps12
  go_wp2_with fail
  have f0 : Frm [] w (w.alloc (.cells #[.int .i64 5, .int .i64 i] 33)) := (Frm.refl _ _).alloc _
  have g0 := block_new w (.cells #[.int .i64 5, .int .i64 i] 33)
  have hC0 := hC.frm f0 (by simp) (by simp)
  have hR0 := hR.frm f0 (by simp) (by simp) (by simp) (by simp)
  have hlt := hC.size
  revert f0 g0 hC0 hR0
  generalize w.alloc (.cells #[.int .i64 5, .int .i64 i] 33) = w0
  intro f0 g0 hC0 hR0
  refine (set_any w0 b bl S h i hC0).mono ?_
  rintro e w1 ⟨rfl, hC1, hf1⟩
  have hb : w.heap.size ∉ [bl] := by simp; omega
  have hx : w1.cell? ⟨w.heap.size, 1, none⟩ = some (.int .i64 i) := by simp [World.cell?, hf1.get g0 hb]
  have hR1 := hR0.frm hf1 (by have := D.out bl (by simp); simp at this ⊢; omega) (by have := D.out bl (by simp); simp at this ⊢; omega) (by have := D.out bl (by simp); simp at this ⊢; omega) (by have := D.out bl (by simp); simp at this ⊢; omega)
  go_wp2_with (go_at_call 32; refine (rset_any w1 rb rt ru rp R hr i hR1).mono ?_; rintro e w2 ⟨rfl, hR2, hf2⟩)
  go_ret
  refine ⟨rfl, hC1.frm hf2 (by have := D.out b (by simp); simp at this ⊢; omega) (by have := D.out bl (by simp); simp at this ⊢; omega), hR2, ?_⟩
  exact (f0.nil.trans hf1 (by simp)).trans hf2 (by simp)
end Go.Proofs.Ytcncfloigaiojaa
