/- The document's clock: Take. -/
import Derived.Test.YtcncfloigaiojaaClkF3
import Derived.Deep.CutBlock
namespace Go.Proofs.Ytcncfloigaiojaa
open Go Go.RowKit Go.Proofs

theorem round_pos {k : Nat} {S : List Slot} {h : Nat} {r : Nat × List Slot × Nat} (e : Ck.round k S h = some r) : ∃ j, k = j + 1 := by
  cases k with
  | zero => simp [Ck.round] at e
  | succ k => exact ⟨k, rfl⟩
theorem idx_at (S : List Slot) (k : Nat) (hk : k < S.length) (ht : (Ck.sl S k).taken = false) (h : ∀ j, j < k → (Ck.sl S j).taken = true) : S.findIdx? (fun s => !s.taken) = some k := by
  rw [List.findIdx?_eq_some_iff_getElem]
  exact ⟨hk, by rw [← Ck.sl_get S k hk, ht]; rfl, fun j hj => by rw [← Ck.sl_get S j (by omega), h j hj]; simp⟩
theorem idx_no (S : List Slot) (h : ∀ j, j < S.length → (Ck.sl S j).taken = true) : S.findIdx? (fun s => !s.taken) = none := by
  rw [List.findIdx?_eq_none_iff]
  intro x hx
  obtain ⟨j, hj, rfl⟩ := List.getElem_of_mem hx
  rw [← Ck.sl_get S j hj, h j hj]; rfl
theorem any_snoc (S : List Slot) (k : Nat) (h : k < S.length) : (S.take (k + 1)).any (fun s => s.pins == 0) = ((S.take k).any (fun s => s.pins == 0) || (Ck.sl S k).pins == 0) := by
  rw [List.take_succ_eq_append_getElem h, List.any_append, Ck.sl_get S k h]
  simp
theorem all_taken (S S' : List Slot) (hm : S'.map (·.taken) = S.map (·.taken)) (h : S.findIdx? (fun s => !s.taken) = none) (g : Nat) (hg : g < S'.length) : (Ck.sl S' g).taken = true := by
  rw [List.findIdx?_eq_none_iff] at h
  have hlen : S'.length = S.length := by have := congrArg List.length hm; simpa using this
  have hg' : g < S.length := by omega
  have : (S'.map (·.taken))[g]? = (S.map (·.taken))[g]? := by rw [hm]
  simp only [List.getElem?_map, Ck.sl_some S' g hg, Ck.sl_some S g hg', Option.map_some, Option.some.injEq] at this
  rw [this]
  have := h (Ck.sl S g) (by rw [Ck.sl_get S g hg']; exact List.getElem_mem _)
  simpa using this
theorem setF_used (S : List Slot) (g : Nat) (h : (Ck.sl S g).taken = true) : Ck.upd S g Ck.setF = S.modify g (fun s => { s with used := true }) := by
  rw [Ck.upd_nat]; exact Ck.modify_congr _ _ _ _ (by simp [Ck.setF, h])
theorem take_no (S : List Slot) (hand : Nat) (hi : S.findIdx? (fun s => !s.taken) = none) (ha : S.any (fun s => s.pins == 0) = false) : Ck.take S hand = (0, false, S, hand) := by simp only [Ck.take, hi, ha]; rfl
theorem take_r (S : List Slot) (hand : Nat) (r : Nat × List Slot × Nat) (hi : S.findIdx? (fun s => !s.taken) = none) (ha : S.any (fun s => s.pins == 0) = true) (hr : Ck.round (2 * S.length) S hand = some r) :
    Ck.take S hand = ((r.1 : Int), true, Ck.upd r.2.1 r.1 Ck.setF, r.2.2) := by simp only [Ck.take, hi, ha, hr]; rfl
def RTaken (w : World) (b bt bu bp : Nat) (r : Int × Bool × List Slot × Nat) (e : Ending) (w' : World) : Prop :=
  e = .returned (.tuple #[.int .i64 r.1, .bool r.2.1]) ∧ RefIs w' b bt bu bp r.2.2.1 r.2.2.2 ∧ Frm [b, bt, bu, bp] w w'
set_option maxHeartbeats 4000000 in
theorem rtake_any (w : World) (b bt bu bp : Nat) (S : List Slot) (hand : Nat) (h : RefIs w b bt bu bp S hand) (hn : S.length ≤ 4096) (hh : S.length ≠ 0 → hand < S.length) (hp : ∀ n, n < S.length → 0 ≤ (Ck.sl S n).pins) :
    Calls Try.prog 27 #[.pointer (some ⟨b, 0, none⟩)] w (RTaken w b bt bu bp (Ck.take S hand)) := by
  obtain ⟨e0, e1, e2, e3, g3⟩ := h.cells
  go_enter Try.func27, Try.ntmps27
  go_wp2
  go_loop [5, 6] (fun o i => ∃ k : Nat, k ≤ S.length ∧ i = .int .i64 k ∧ o = .bool ((S.take k).any (fun s => s.pins == 0)) ∧ Hid (∀ j, j < k → (Ck.sl S j).taken = true)) (fun _ i => S.length - (intOf i).toNat)
  case atStart => exact ⟨0, Nat.zero_le _, rfl, by simp, fun j hj => absurd hj (Nat.not_lt_zero j)⟩
  case round =>
    obtain ⟨k, hk, rfl, rfl, hall⟩ := hrel
    by_cases hlt : k < S.length
    · obtain ⟨c0, c1, c2, f0, f1, f2⟩ := h.slot k hlt
      cases ht : (Ck.sl S k).taken with
      | false =>
        have hi := idx_at S k hlt ht hall.out
        have G := Lib.hid (show Ck.take S hand = ((k : Int), true, Ck.upd S k Ck.setF, hand) by simp [Ck.take, hi])
        rw [ht] at c0
        clear ht hi
        go_wp2_with (go_at_call 32; refine (rset_any _ b bt bu bp S hand k h).mono ?_; rintro e w2 ⟨rfl, h2, hf2⟩)
        go_ret2
        rw [G.out]
        exact ⟨rfl, h2, hf2.mono (by simp)⟩
      | true =>
        have HT := Lib.hid ht
        have hsn := any_snoc S k hlt
        rw [ht] at c0
        clear ht
        generalize (S.take k).any (fun s => s.pins == 0) = o at hsn ⊢
        have HS := Lib.hid hsn
        clear hsn
        cases o with
        | true =>
          go_wp2
          go_round
          case rel => exact ⟨k + 1, by omega, by go_num, by rw [HS.out]; rfl, fun j hj => by
            rcases Nat.lt_succ_iff_lt_or_eq.1 hj with h1 | rfl
            · exact hall.out j h1
            · exact HT.out⟩
          case measure => simp [intOf]; omega
        | false =>
          go_wp2
          go_round
          case rel => exact ⟨k + 1, by omega, by go_num, by rw [HS.out]; rfl, fun j hj => by
            rcases Nat.lt_succ_iff_lt_or_eq.1 hj with h1 | rfl
            · exact hall.out j h1
            · exact HT.out⟩
          case measure => simp [intOf]; omega
    · have hk' : k = S.length := by omega
      subst hk'
      have hi := idx_no S hall.out
      have htk : S.take S.length = S := List.take_length
      rw [htk]
      clear htk
      cases ha : S.any (fun s => s.pins == 0) with
      | false =>
        have G := Lib.hid (take_no S hand hi ha)
        clear ha hi
        go_wp2
        go_ret2
        rw [G.out]
        exact ⟨rfl, h, Frm.refl _ _⟩
      | true =>
        have hne : S.length ≠ 0 := by intro h0; have : S = [] := List.eq_nil_of_length_eq_zero h0; subst this; simp at ha
        have hlt' := hh hne
        obtain ⟨r, hr⟩ := Ck.round_total S hand hlt' (any_pins S hp ha)
        have hrt := Lib.hid (round_taken _ _ _ _ hr)
        have hrl := Lib.hid (Ck.round_len _ _ _ _ hr)
        have hrh := Lib.hid (Ck.round_hand _ _ _ _ hlt' hr)
        have HI := Lib.hid hi
        have G := Lib.hid (take_r S hand r hi ha hr)
        have R := Lib.hid hr
        clear ha hi hr
        go_wp2
        go_loopg [7] (2 * S.length) (fun k c wr => ∃ (S' : List Slot) (h' j : Nat), c = .int .i64 j ∧ j + k ≤ 2 * S.length ∧ RefIs wr b bt bu bp S' h' ∧ h' < S'.length ∧ Hid (S'.length = S.length) ∧ Frm [b, bt, bu, bp] w wr ∧ Hid (Ck.round k S' h' = some r))
        case atStart => exact ⟨S, hand, 0, rfl, by omega, h, hlt', rfl, Frm.refl _ _, R.out⟩
        case round =>
          obtain ⟨S', h', j, rfl, hj, hC, hl, hSl, hf, hr'⟩ := hrel
          obtain ⟨k, rfl⟩ := round_pos hr'.out
          have hn' : S'.length ≤ 4096 := by have := hSl.out; omega
          have hl2 : (h' + 1) % S'.length < S'.length := Nat.mod_lt _ (by omega)
          obtain ⟨d0, d1, d2, d3, k3⟩ := hC.cells
          have hC2 : RefIs (wr.setCell ⟨b, 3, none⟩ (.int .i64 (((h' : Int) + 1) % (S.length : Int)))) b bt bu bp S' ((h' + 1) % S'.length) := hC.hand _ _ (by rw [hSl.out]; simp)
          have hF2 : Frm [b] wr (wr.setCell ⟨b, 3, none⟩ (.int .i64 (((h' : Int) + 1) % (S.length : Int)))) := (Frm.refl _ _).setCell (by simp) _
          go_upto_region 17 with (fail)
          revert hC2 hF2
          generalize (wr.setCell ⟨b, 3, none⟩ (.int .i64 (((h' : Int) + 1) % (S.length : Int)))) = w2
          intro hC2 hF2
          clear d0 d1 d2 d3 k3
          have hf2 : Frm [b, bt, bu, bp] w w2 := hf.trans hF2 (by simp)
          obtain ⟨d0, d1, d2, d3, k3⟩ := hC2.cells
          obtain ⟨c0, c1, c2, f0, f1, f2⟩ := hC2.slot h' hl
          by_cases hp' : 0 < (Ck.sl S' h').pins
          · have hr2 := hr'.out
            rw [Ck.round, if_pos hp'] at hr2
            have H := Lib.hid hr2
            clear hr2
            go_wp2
            go_roundg k
            case measure => omega
            case rel => exact ⟨S', _, j + 1, by go_num, by omega, hC2, hl2, hSl, hf2, H.out⟩
          · have hr2 := hr'.out
            rw [Ck.round, if_neg hp'] at hr2
            cases hu : (Ck.sl S' h').used with
            | true =>
              rw [if_pos hu] at hr2
              have H := Lib.hid hr2
              clear hr2
              rw [hu] at c1
              clear hu
              go_wp2
              go_roundg k
              case measure => omega
              case rel => exact ⟨S'.modify h' Ck.lazyF, (h' + 1) % S'.length, j + 1, by go_num, by omega, hC2.store_used h' hl false, by simpa using hl2, by have := hSl.out; show (S'.modify h' Ck.lazyF).length = _; simpa using this,
                hf2.trans ((Frm.refl [bu] _).setCell (by simp) _) (by simp), by have := H.out; exact this⟩
            | false =>
              rw [if_neg (by simp [hu])] at hr2
              have H := Lib.hid hr2
              clear hr2
              rw [hu] at c1
              clear hu
              go_wp2
              go_ret2
              have := H.out
              cases this
              rw [G.out]
              refine ⟨rfl, ?_, hf2.trans ((Frm.refl [bu] _).setCell (by simp) _) (by simp)⟩
              rw [setF_used _ _ (all_taken S _ hrt.out HI.out _ hl)]
              exact hC2.store_used h' hl true
end Go.Proofs.Ytcncfloigaiojaa
