/- The clock: the search for a slot, the hand's round, Take. -/
import Derived.Test.YtcncfloigaiojaaClkW3
namespace Go.Proofs.Ytcncfloigaiojaa
open Go Go.RowKit Go.Proofs

theorem ClockIs.drew {w : World} {b bl : Nat} {S : List Slot} {hand : Nat} (h : ClockIs w b bl S hand) : ClockIs w.drew b bl S hand := ⟨h.ne, h.top, h.row⟩
def idxOf (S : List Slot) (p : Slot → Bool) : Int := match S.findIdx? p with | some i => i | none => -1
theorem idxOf_none (S : List Slot) (p : Slot → Bool) (h : ∀ j, j < S.length → p (Ck.sl S j) = false) : idxOf S p = -1 := by
  have : S.findIdx? p = none := by
    rw [List.findIdx?_eq_none_iff]
    intro x hx
    obtain ⟨j, hj, rfl⟩ := List.getElem_of_mem hx
    rw [← Ck.sl_get S j hj]; exact h j hj
  simp [idxOf, this]
theorem idxOf_some (S : List Slot) (p : Slot → Bool) (k : Nat) (hk : k < S.length) (hp : p (Ck.sl S k) = true) (h : ∀ j, j < k → p (Ck.sl S j) = false) : idxOf S p = k := by
  have : S.findIdx? p = some k := by
    rw [List.findIdx?_eq_some_iff_getElem]
    exact ⟨hk, by rw [← Ck.sl_get S k hk]; exact hp, fun j hj => by rw [← Ck.sl_get S j (by omega)]; simp [h j hj]⟩
  simp [idxOf, this]
/-- a call that only computes: its answer, and nothing that was there has turned -/
def Gives (w : World) (v : Value) (e : Ending) (w' : World) : Prop := e = .returned v ∧ Frm [] w w'
set_option maxHeartbeats 400000 in
theorem indexFunc_slot (w : World) (b bl : Nat) (S : List Slot) (hand : Nat) (cl : FuncId) (p : Slot → Bool)
    (hE : ∀ (args : Array Value) (W : World), Sem.run Try.prog (callFunc cl args) W = Result.ok (Next.enter cl args) W)
    (hcl : ∀ (w1 : World) (s : Slot), Calls Try.prog cl #[.agg #[.bool s.taken, .bool s.used, .int .i64 s.pins]] w1 (Gives w1 (.bool (p s)))) (h : ClockIs w b bl S hand) (hn : S.length ≤ 4096) :
    Calls Try.prog 21 #[.slice (some ⟨bl, 0, none⟩) S.length S.length, .func (.func cl) #[] #[]] w (Gives w (.int .i64 (idxOf S p))) := by
  go_enter Try.func21, Try.ntmps21
  go_wp2
  go_loopw [8] (fun i wr => ∃ k : Nat, k ≤ S.length ∧ i = .int .i64 k ∧ Frm [] w wr ∧ Hid (∀ j, j < k → p (Ck.sl S j) = false)) (fun i _ => S.length - (intOf i).toNat)
  case atStart => exact ⟨0, Nat.zero_le _, rfl, Frm.refl _ _, fun j hj => absurd hj (Nat.not_lt_zero j)⟩
  case round =>
    obtain ⟨k, hk, rfl, hf, hno⟩ := hrel
    by_cases hlt : k < S.length
    · have hC := h.frm hf (by simp) (by simp)
      obtain ⟨c0, c1, c2, -⟩ := hC.slot k hlt
      cases hp : p (Ck.sl S k) with
      | true =>
        have H := Lib.hid (idxOf_some S p k hlt hp hno.out)
        have hp' := Lib.hid hp
        clear hp
        go_wp2_with ((with_reducible refine (hcl _ (Ck.sl S k)).mono ?_); rintro e w' ⟨rfl, hf'⟩; rw [hp'.out])
        go_ret
        exact ⟨ret_int H.out.symm, hf.trans' hf'⟩
      | false =>
        have hp' := Lib.hid hp
        clear hp
        go_wp2_with ((with_reducible refine (hcl _ (Ck.sl S k)).mono ?_); rintro e w' ⟨rfl, hf'⟩; rw [hp'.out])
        go_roundw
        case rel => exact ⟨k + 1, by omega, by go_num, hf.trans' hf', fun j hj => by
          rcases Nat.lt_succ_iff_lt_or_eq.1 hj with h1 | rfl
          · exact hno.out j h1
          · exact hp'.out⟩
        case measure => simp [intOf]; omega
    · have H := Lib.hid (idxOf_none S p (fun j hj => hno.out j (by omega)))
      go_wp2
      go_ret
      exact ⟨ret_int H.out.symm, hf⟩

theorem clo1 (w : World) (s : Slot) : Calls Try.prog 22 #[.agg #[.bool s.taken, .bool s.used, .int .i64 s.pins]] w (Gives w (.bool (!s.taken))) := by
  go_enter Try.func22, Try.ntmps22
  go_wp2
  go_ret
  exact ⟨rfl, (Frm.refl _ _).alloc _⟩
theorem clo2 (w : World) (s : Slot) : Calls Try.prog 24 #[.agg #[.bool s.taken, .bool s.used, .int .i64 s.pins]] w (Gives w (.bool (s.pins == 0))) := by
  go_enter Try.func24, Try.ntmps24
  go_wp2
  go_ret
  exact ⟨rfl, (Frm.refl _ _).alloc _⟩
theorem enter1 (args : Array Value) (W : World) : Sem.run Try.prog (callFunc 22 args) W = Result.ok (Next.enter 22 args) W := rfl
theorem enter2 (args : Array Value) (W : World) : Sem.run Try.prog (callFunc 24 args) W = Result.ok (Next.enter 24 args) W := rfl
theorem idx_ge (S : List Slot) (p : Slot → Bool) : (decide (0 ≤ idxOf S p)) = S.any p ∧ -1 ≤ idxOf S p := by
  unfold idxOf
  cases h : S.findIdx? p with
  | none =>
    rw [List.findIdx?_eq_none_iff] at h
    have : S.any p = false := by
      rw [List.any_eq_false]; intro x hx; simp [h x hx]
    simp [this]
  | some i =>
    rw [List.findIdx?_eq_some_iff_getElem] at h
    obtain ⟨hi, hp, _⟩ := h
    have : S.any p = true := by
      rw [List.any_eq_true]; exact ⟨_, List.getElem_mem hi, hp⟩
    rw [this]; simp
set_option maxHeartbeats 400000 in
theorem contains_slot (w : World) (b bl : Nat) (S : List Slot) (hand : Nat) (h : ClockIs w b bl S hand) (hn : S.length ≤ 4096) :
    Calls Try.prog 23 #[.slice (some ⟨bl, 0, none⟩) S.length S.length, .func (.func 24) #[] #[]] w (Gives w (.bool (S.any (fun s => s.pins == 0)))) := by
  have H := Lib.hid (idx_ge S (fun s => s.pins == 0))
  go_enter Try.func23, Try.ntmps23
  go_wp2_with (go_at_call 21; refine (indexFunc_slot w b bl S hand _ _ enter2 clo2 h hn).mono ?_; rintro e w' ⟨rfl, hf⟩)
  go_ret
  exact ⟨ret_bool H.out.1, hf⟩
theorem any_pins (S : List Slot) (hp : ∀ n, n < S.length → 0 ≤ (Ck.sl S n).pins) (h : S.any (fun s => s.pins == 0) = true) : ∃ s ∈ S, ¬ 0 < s.pins := by
  obtain ⟨s, hs, he⟩ := List.any_eq_true.1 h
  exact ⟨s, hs, by have : s.pins = 0 := by simpa using he
                   omega⟩
/-- the hand's round -/
def Rounded (w : World) (b bl : Nat) (r : Nat × List Slot × Nat) (e : Ending) (w' : World) : Prop :=
  e = .returned (.int .i64 r.1) ∧ ClockIs w' b bl r.2.1 r.2.2 ∧ Frm [b, bl] w w'
theorem sl_lazy (S : List Slot) (h k : Nat) (hk : k < S.length) : (Ck.sl (S.modify h Ck.lazyF) k).pins = (Ck.sl S k).pins := by
  have : k < (S.modify h Ck.lazyF).length := by simpa using hk
  rw [Ck.sl_get _ _ this, Ck.sl_get _ _ hk, List.getElem_modify]
  split <;> rfl
set_option maxHeartbeats 1000000 in
theorem round_any (w : World) (b bl : Nat) (S : List Slot) (hand : Nat) (r : Nat × List Slot × Nat) (k0 : Nat) (h : ClockIs w b bl S hand) (hh : hand < S.length) (hn : S.length ≤ 4096) (hr : Ck.round k0 S hand = some r) :
    Calls Try.prog 25 #[.pointer (some ⟨b, 0, none⟩)] w (Rounded w b bl r) := by
  have hr0 := Lib.hid hr
  clear hr
  go_enter Try.func25, Try.ntmps25
  go_wp2
  go_step3
  go_wp2
  go_step3
  go_wp2
  go_loopg [3] k0 (fun k _ wr => ∃ (S' : List Slot) (h' : Nat), ClockIs wr b bl S' h' ∧ h' < S'.length ∧ S'.length ≤ 4096 ∧ Frm [b, bl] w wr ∧ Hid (Ck.round k S' h' = some r))
  case atStart => exact ⟨S, hand, h, hh, hn, Frm.refl _ _, hr0⟩
  case round =>
    obtain ⟨S', h', hC, hl, hn', hf, hr'⟩ := hrel
    obtain ⟨k, rfl⟩ : ∃ k, gk = k + 1 := by
      cases gk with
      | zero => have := hr'.out; simp [Ck.round] at this
      | succ k => exact ⟨k, rfl⟩
    have hl2 : (h' + 1) % S'.length < S'.length := Nat.mod_lt _ (by omega)
    have hC2 : ClockIs ((wr.setCell ⟨b, 1, none⟩ (.int .i64 (((h' : Int) + 1) % (S'.length : Int)))).drew) b bl S' ((h' + 1) % S'.length) := (hC.hand _ _ (by simp)).drew
    have hF2 : Frm [b] wr ((wr.setCell ⟨b, 1, none⟩ (.int .i64 (((h' : Int) + 1) % (S'.length : Int)))).drew) := ((Frm.refl _ _).setCell (by simp) _).drew
    obtain ⟨d0, d1, e1⟩ := hC.cells
    go_wp2
    go_region
    revert hC2 hF2
    generalize (wr.setCell ⟨b, 1, none⟩ (.int .i64 (((h' : Int) + 1) % (S'.length : Int)))).drew = w2
    intro hC2 hF2
    clear d0 d1 e1
    have hf2 : Frm [b, bl] w w2 := hf.trans hF2 (by simp)
    obtain ⟨d0, d1, e1⟩ := hC2.cells
    obtain ⟨c0, c1, c2, f0, f1, f2⟩ := hC2.slot h' hl
    by_cases hp : 0 < (Ck.sl S' h').pins
    · have hr2 := hr'.out
      rw [Ck.round, if_pos hp] at hr2
      have H := Lib.hid hr2
      clear hr2
      go_wp2
      go_roundg k
      case measure => omega
      case rel => exact ⟨S', _, hC2, hl2, hn', hf2, H.out⟩
    · have hr2 := hr'.out
      rw [Ck.round, if_neg hp] at hr2
      cases hu : (Ck.sl S' h').used with
      | true =>
        rw [if_pos hu] at hr2
        have H := Lib.hid hr2
        clear hr2
        rw [hu] at c1
        clear hu
        go_wp2
        go_roundg k
        case measure => omega
        case rel => exact ⟨S'.modify h' Ck.lazyF, (h' + 1) % S'.length, hC2.store_used h' hl false, by simpa using hl2, by simpa using hn', hf2.trans ((Frm.refl [bl] _).setCell (by simp) _) (by simp), by have := H.out; exact this⟩
      | false =>
        rw [if_neg (by simp [hu])] at hr2
        have H := Lib.hid hr2
        clear hr2
        rw [hu] at c1
        clear hu
        go_wp2
        go_ret
        have := H.out
        cases this
        exact ⟨rfl, hC2, hf2⟩
end Go.Proofs.Ytcncfloigaiojaa
