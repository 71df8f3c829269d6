/- The document's clock (firkinref27): what each call answers, and how its slots are then. -/
import Derived.Test.YtcncfloigaiojaaClkW5
namespace Go.Proofs.Ytcncfloigaiojaa
open Go Go.RowKit Go.Proofs

/-- in 'w' lies the document's clock at block b; its three rows at bt, bu, bp -/
structure RefIs (w : World) (b bt bu bp : Nat) (S : List Slot) (hand : Nat) : Prop where
  n1 : b ≠ bt
  n2 : b ≠ bu
  n3 : b ≠ bp
  n4 : bt ≠ bu
  n5 : bt ≠ bp
  n6 : bu ≠ bp
  top : w.heap[b]? = some (.cells #[.slice (some ⟨bt, 0, none⟩) S.length S.length, .slice (some ⟨bu, 0, none⟩) S.length S.length, .slice (some ⟨bp, 0, none⟩) S.length S.length, .int .i64 hand] 42 (0, 0))
  tk : w.heap[bt]? = some (.cells (S.map fun s => Value.bool s.taken).toArray 4 (0, 0))
  us : w.heap[bu]? = some (.cells (S.map fun s => Value.bool s.used).toArray 4 (0, 0))
  pn : w.heap[bp]? = some (.cells (S.map fun s => Value.int .i64 s.pins).toArray 3 (0, 0))

section
variable {w : World} {b bt bu bp : Nat} {S : List Slot} {hd : Nat}
theorem RefIs.frm {F : List Nat} {w' : World} (h : RefIs w b bt bu bp S hd) (hf : Frm F w w') (h1 : b ∉ F) (h2 : bt ∉ F) (h3 : bu ∉ F) (h4 : bp ∉ F) : RefIs w' b bt bu bp S hd :=
  ⟨h.n1, h.n2, h.n3, h.n4, h.n5, h.n6, hf.get h.top h1, hf.get h.tk h2, hf.get h.us h3, hf.get h.pn h4⟩
theorem RefIs.cells (h : RefIs w b bt bu bp S hd) :
    w.cell? ⟨b, 0, none⟩ = some (.slice (some ⟨bt, 0, none⟩) S.length S.length) ∧ w.cell? ⟨b, 1, none⟩ = some (.slice (some ⟨bu, 0, none⟩) S.length S.length) ∧ w.cell? ⟨b, 2, none⟩ = some (.slice (some ⟨bp, 0, none⟩) S.length S.length) ∧
    w.cell? ⟨b, 3, none⟩ = some (.int .i64 hd) ∧ w.frozen? ⟨b, 3, none⟩ = false := by
  simp [World.cell?, World.frozen?, h.top]
theorem RefIs.slot (h : RefIs w b bt bu bp S hd) (i : Nat) (hi : i < S.length) :
    w.cell? ⟨bt, i, none⟩ = some (.bool (Ck.sl S i).taken) ∧ w.cell? ⟨bu, i, none⟩ = some (.bool (Ck.sl S i).used) ∧ w.cell? ⟨bp, i, none⟩ = some (.int .i64 (Ck.sl S i).pins)
    ∧ w.frozen? ⟨bt, i, none⟩ = false ∧ w.frozen? ⟨bu, i, none⟩ = false ∧ w.frozen? ⟨bp, i, none⟩ = false := by
  have := Ck.sl_some S i hi
  simp [World.cell?, World.frozen?, h.tk, h.us, h.pn, this]
theorem map_modify_set {β : Type} (S : List Slot) (i : Nat) (hi : i < S.length) (f : Slot → Slot) (g : Slot → β) : (S.modify i f).map g = (S.map g).set i (g (f (Ck.sl S i))) := by
  apply List.ext_getElem?
  intro j
  rw [List.getElem?_map, List.getElem?_modify, List.getElem?_set]
  by_cases e : i = j
  · subst e
    simp [hi, Ck.sl_get S i hi]
  · simp [e]
theorem map_modify_eq {β : Type} (S : List Slot) (i : Nat) (f : Slot → Slot) (g : Slot → β) (h : ∀ s, g (f s) = g s) : (S.modify i f).map g = S.map g := by
  apply List.ext_getElem?
  intro j
  rw [List.getElem?_map, List.getElem?_modify, List.getElem?_map]
  by_cases e : i = j
  · subst e
    cases S[i]? <;> simp [h]
  · simp [e]
theorem RefIs.store_taken (h : RefIs w b bt bu bp S hd) (i : Nat) (hi : i < S.length) (t : Bool) :
    RefIs (w.setCell ⟨bt, i, none⟩ (.bool t)) b bt bu bp (S.modify i fun s => { s with taken := t }) hd := by
  refine ⟨h.n1, h.n2, h.n3, h.n4, h.n5, h.n6, ?_, ?_, ?_, ?_⟩
  · rw [block_setCell_ne h.n1]; simpa using h.top
  · rw [block_setCell h.tk, map_modify_set _ _ hi]; simp
  · rw [block_setCell_ne h.n4.symm, map_modify_eq]; exact h.us; intro s; rfl
  · rw [block_setCell_ne h.n5.symm, map_modify_eq]; exact h.pn; intro s; rfl
theorem RefIs.store_used (h : RefIs w b bt bu bp S hd) (i : Nat) (hi : i < S.length) (t : Bool) :
    RefIs (w.setCell ⟨bu, i, none⟩ (.bool t)) b bt bu bp (S.modify i fun s => { s with used := t }) hd := by
  refine ⟨h.n1, h.n2, h.n3, h.n4, h.n5, h.n6, ?_, ?_, ?_, ?_⟩
  · rw [block_setCell_ne h.n2]; simpa using h.top
  · rw [block_setCell_ne h.n4, map_modify_eq]; exact h.tk; intro s; rfl
  · rw [block_setCell h.us, map_modify_set _ _ hi]; simp
  · rw [block_setCell_ne h.n6.symm, map_modify_eq]; exact h.pn; intro s; rfl
theorem RefIs.store_pins (h : RefIs w b bt bu bp S hd) (i : Nat) (hi : i < S.length) (p : Int) :
    RefIs (w.setCell ⟨bp, i, none⟩ (.int .i64 p)) b bt bu bp (S.modify i fun s => { s with pins := p }) hd := by
  refine ⟨h.n1, h.n2, h.n3, h.n4, h.n5, h.n6, ?_, ?_, ?_, ?_⟩
  · rw [block_setCell_ne h.n3]; simpa using h.top
  · rw [block_setCell_ne h.n5, map_modify_eq]; exact h.tk; intro s; rfl
  · rw [block_setCell_ne h.n6, map_modify_eq]; exact h.us; intro s; rfl
  · rw [block_setCell h.pn, map_modify_set _ _ hi]; simp
theorem RefIs.hand (h : RefIs w b bt bu bp S hd) (z : Int) (n : Nat) (hz : z = n) : RefIs (w.setCell ⟨b, 3, none⟩ (.int .i64 z)) b bt bu bp S n := by
  subst hz
  refine ⟨h.n1, h.n2, h.n3, h.n4, h.n5, h.n6, ?_, ?_, ?_, ?_⟩
  · rw [block_setCell h.top]; simp
  · rw [block_setCell_ne h.n1.symm]; exact h.tk
  · rw [block_setCell_ne h.n2.symm]; exact h.us
  · rw [block_setCell_ne h.n3.symm]; exact h.pn
end
/-- what a deed on one slot leaves -/
def RUpd (w : World) (b bt bu bp : Nat) (S : List Slot) (hand : Nat) (e : Ending) (w' : World) : Prop :=
  e = .returned (.tuple #[]) ∧ RefIs w' b bt bu bp S hand ∧ Frm [bt, bu, bp] w w'

set_option maxHeartbeats 400000 in
theorem rhas_any (w : World) (b bt bu bp : Nat) (S : List Slot) (hand : Nat) (i : Int) (h : RefIs w b bt bu bp S hand) :
    Calls Try.prog 18 #[.pointer (some ⟨b, 0, none⟩), .int .i64 i] w fun e w' => e = .returned (.bool (Ck.takenB S i)) ∧ w = w' := by
  obtain ⟨c0, c1, c2, c3, f3⟩ := h.cells
  by_cases h0 : 0 ≤ i
  · by_cases h1 : i < S.length
    · obtain ⟨n, rfl⟩ := Int.eq_ofNat_of_zero_le h0
      have hl : n < S.length := by omega
      obtain ⟨d0, d1, d2, -⟩ := h.slot n hl
      have H := Lib.hid (Ck.takenB_nat S n hl)
      go_enter Try.func18, Try.ntmps18
      go_wp2
      go_ret
      exact ⟨ret_bool H.out.symm, rfl⟩
    · have H := Lib.hid (Ck.takenB_out S i (by omega))
      have h1' : (S.length : Int) ≤ i := by omega
      clear h1
      go_enter Try.func18, Try.ntmps18
      go_wp2
      go_ret
      exact ⟨ret_bool H.out.symm, rfl⟩
  · have H := Lib.hid (Ck.takenB_out S i (by omega))
    have h1' : i < 0 := by omega
    clear h0
    go_enter Try.func18, Try.ntmps18
    go_wp2
    go_ret
    exact ⟨ret_bool H.out.symm, rfl⟩
set_option maxHeartbeats 400000 in
theorem rset_any (w : World) (b bt bu bp : Nat) (S : List Slot) (hand : Nat) (i : Int) (h : RefIs w b bt bu bp S hand) :
    Calls Try.prog 32 #[.pointer (some ⟨b, 0, none⟩), .int .i64 i] w (RUpd w b bt bu bp (Ck.upd S i Ck.setF) hand) := by
  obtain ⟨c0, c1, c2, c3, f3⟩ := h.cells
  by_cases h0 : 0 ≤ i
  · by_cases h1 : i < S.length
    · obtain ⟨n, rfl⟩ := Int.eq_ofNat_of_zero_le h0
      have hl : n < S.length := by omega
      obtain ⟨d0, d1, d2, g0, g1, g2⟩ := h.slot n hl
      have n1 := h.n1
      have n4 := h.n4
      have hS := Lib.hid ((h.store_taken n hl true).store_used n (by simpa using hl) true)
      have H := Lib.hid (Ck.upd_nat S n Ck.setF)
      go_enter Try.func32, Try.ntmps32
      go_wp2
      go_end0
      refine ⟨rfl, ?_, ((Frm.refl _ _).setCell (by simp) _).setCell (by simp) _⟩
      rw [H.out]
      have := hS.out
      rw [List.modify_modify_eq] at this
      exact this
    · have H := Lib.hid (Ck.upd_out S i Ck.setF (by omega))
      have h1' : (S.length : Int) ≤ i := by omega
      clear h1
      go_enter Try.func32, Try.ntmps32
      go_wp2
      go_end0
      exact ⟨rfl, by rw [H.out]; exact h, Frm.refl _ _⟩
  · have H := Lib.hid (Ck.upd_out S i Ck.setF (by omega))
    have h1' : i < 0 := by omega
    clear h0
    go_enter Try.func32, Try.ntmps32
    go_wp2
    go_end0
    exact ⟨rfl, by rw [H.out]; exact h, Frm.refl _ _⟩
set_option maxHeartbeats 400000 in
theorem rfree_any (w : World) (b bt bu bp : Nat) (S : List Slot) (hand : Nat) (i : Int) (h : RefIs w b bt bu bp S hand) :
    Calls Try.prog 31 #[.pointer (some ⟨b, 0, none⟩), .int .i64 i] w (RUpd w b bt bu bp (Ck.upd S i Ck.freeF) hand) := by
  obtain ⟨c0, c1, c2, c3, f3⟩ := h.cells
  by_cases h0 : 0 ≤ i
  · by_cases h1 : i < S.length
    · obtain ⟨n, rfl⟩ := Int.eq_ofNat_of_zero_le h0
      have hl : n < S.length := by omega
      obtain ⟨d0, d1, d2, g0, g1, g2⟩ := h.slot n hl
      have n1 := h.n1
      have n2 := h.n2
      have n4 := h.n4
      have n5 := h.n5
      have n6 := h.n6
      have hS := Lib.hid (((h.store_taken n hl false).store_used n (by simpa using hl) false).store_pins n (by simpa using hl) 0)
      have H := Lib.hid (Ck.upd_nat S n Ck.freeF)
      go_enter Try.func31, Try.ntmps31
      go_wp2
      go_end0
      refine ⟨rfl, ?_, (((Frm.refl _ _).setCell (by simp) _).setCell (by simp) _).setCell (by simp) _⟩
      rw [H.out]
      have := hS.out
      rw [List.modify_modify_eq, List.modify_modify_eq] at this
      exact this
    · have H := Lib.hid (Ck.upd_out S i Ck.freeF (by omega))
      have h1' : (S.length : Int) ≤ i := by omega
      clear h1
      go_enter Try.func31, Try.ntmps31
      go_wp2
      go_end0
      exact ⟨rfl, by rw [H.out]; exact h, Frm.refl _ _⟩
  · have H := Lib.hid (Ck.upd_out S i Ck.freeF (by omega))
    have h1' : i < 0 := by omega
    clear h0
    go_enter Try.func31, Try.ntmps31
    go_wp2
    go_end0
    exact ⟨rfl, by rw [H.out]; exact h, Frm.refl _ _⟩
end Go.Proofs.Ytcncfloigaiojaa
