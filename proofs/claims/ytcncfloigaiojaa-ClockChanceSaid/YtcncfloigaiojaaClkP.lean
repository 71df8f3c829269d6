/- The theorem of pins: plain part, and the walk. -/
import Derived.Test.YtcncfloigaiojaaClkD
import Derived.Deep.RegionWith
namespace Go.Proofs.Ytcncfloigaiojaa
open Go Go.RowKit Go.Proofs

/-- slot p is taken, and pinned -/
def Held (S : List Slot) (p : Nat) : Prop := p < S.length ∧ (Ck.sl S p).taken = true ∧ 0 < (Ck.sl S p).pins
theorem sl_modify (S : List Slot) (i p : Nat) (f : Slot → Slot) (hp : p < S.length) : Ck.sl (S.modify i f) p = if i = p then f (Ck.sl S p) else Ck.sl S p := by
  have : p < (S.modify i f).length := by simpa using hp
  rw [Ck.sl_get _ _ this, Ck.sl_get _ _ hp, List.getElem_modify]
theorem Held.modify {S : List Slot} {p : Nat} (h : Held S p) (i : Nat) (f : Slot → Slot) (hf : i = p → (f (Ck.sl S p)).taken = true ∧ 0 < (f (Ck.sl S p)).pins) : Held (S.modify i f) p := by
  refine ⟨by simpa using h.1, ?_⟩
  rw [sl_modify _ _ _ _ h.1]
  split
  · rename_i e; exact hf e
  · exact h.2
theorem Held.upd {S : List Slot} {p : Nat} (h : Held S p) (i : Int) (f : Slot → Slot) (hf : i = p → (f (Ck.sl S p)).taken = true ∧ 0 < (f (Ck.sl S p)).pins) : Held (Ck.upd S i f) p := by
  unfold Ck.upd
  split
  · rename_i hi
    exact h.modify _ f (fun e => hf (by omega))
  · exact h
theorem Held.deed {S : List Slot} {p : Nat} (h : Held S p) (d i : Int) (hd : ¬ (i = p ∧ (d = 3 ∨ d = 4))) : Held (deed d i S) p := by
  obtain ⟨h0, h1, h2⟩ := h
  have hh : Held S p := ⟨h0, h1, h2⟩
  unfold Go.Proofs.Ytcncfloigaiojaa.deed
  split
  · exact hh.upd i _ fun _ => by rw [Ck.useF, if_pos h1]; exact ⟨h1, h2⟩
  split
  · exact hh.upd i _ fun _ => by rw [Ck.pinF, if_pos h1]; exact ⟨h1, by simp only; omega⟩
  split
  · exact hh.upd i _ fun e => absurd ⟨e, .inl ‹_›⟩ hd
  split
  · exact hh.upd i _ fun e => absurd ⟨e, .inr ‹_›⟩ hd
  split
  · exact hh.upd i _ fun _ => ⟨rfl, h2⟩
  · exact hh
theorem round_free (k : Nat) : ∀ (S : List Slot) (h : Nat) (r : Nat × List Slot × Nat), h < S.length → Ck.round k S h = some r → ¬ 0 < (Ck.sl S r.1).pins := by
  induction k with
  | zero => intro S h r _ e; simp [Ck.round] at e
  | succ k ih =>
    intro S h r hh e
    have hn : (h + 1) % S.length < S.length := Nat.mod_lt _ (by omega)
    unfold Ck.round at e
    split at e
    · exact ih _ _ _ hn e
    · split at e
      · have h1 := ih (S.modify h Ck.lazyF) _ r (by simpa using hn) e
        have hr := (Ck.round_hand _ _ _ _ (by simpa using hn) e).1
        have hr' : r.1 < S.length := by simpa using hr
        rw [sl_modify _ _ _ _ hr'] at h1
        split at h1 <;> exact h1
      · cases e; assumption
theorem held_map {S S' : List Slot} {p : Nat} (h : Held S p) (ht : S'.map (·.taken) = S.map (·.taken)) (hp : S'.map (·.pins) = S.map (·.pins)) : Held S' p := by
  have hlen : S'.length = S.length := by have := congrArg List.length ht; simpa using this
  have hn : p < S'.length := by rw [hlen]; exact h.1
  have h1 : (S'.map (·.taken))[p]? = (S.map (·.taken))[p]? := by rw [ht]
  have h2 : (S'.map (·.pins))[p]? = (S.map (·.pins))[p]? := by rw [hp]
  simp only [List.getElem?_map, Ck.sl_some S' p hn, Ck.sl_some S p h.1, Option.map_some, Option.some.injEq] at h1 h2
  exact ⟨hn, by rw [h1]; exact h.2.1, by rw [h2]; exact h.2.2⟩
theorem take_none_cases (S : List Slot) (hd : Nat) (hi : S.findIdx? (fun s => !s.taken) = none) : Ck.take S hd = (0, false, S, hd) ∨ ∃ r, Ck.round (2 * S.length) S hd = some r ∧ Ck.take S hd = ((r.1 : Int), true, Ck.upd r.2.1 r.1 Ck.setF, r.2.2) := by
  cases ha : S.any (fun s => s.pins == 0) with
  | false => exact .inl (take_no S hd hi ha)
  | true =>
    cases hr : Ck.round (2 * S.length) S hd with
    | none => refine .inl ?_; simp only [Ck.take, hi, ha, hr]; rfl
    | some r => exact .inr ⟨r, rfl, take_r S hd r hi ha hr⟩
theorem held_take {S : List Slot} {p hd : Nat} (h : Held S p) (hh : hd < S.length) : Held (Ck.take S hd).2.2.1 p ∧ 0 ≤ (Ck.take S hd).1 ∧ ((Ck.take S hd).2.1 = true → (Ck.take S hd).1 < S.length ∧ (Ck.take S hd).1 ≠ p) := by
  cases hi : S.findIdx? (fun s => !s.taken) with
  | some i =>
    have e : Ck.take S hd = ((i : Int), true, Ck.upd S i Ck.setF, hd) := by simp [Ck.take, hi]
    obtain ⟨hlt, hnt, _⟩ := List.findIdx?_eq_some_iff_getElem.1 hi
    have hne : i ≠ p := by
      rintro rfl
      have := h.2.1
      rw [Ck.sl_get _ _ hlt] at this
      simp [this] at hnt
    rw [e]
    exact ⟨h.upd _ _ fun he => absurd (by omega) hne, by simp, fun _ => ⟨by simp only; omega, by simp only; omega⟩⟩
  | none =>
    rcases take_none_cases S hd hi with e | ⟨r, hr, e⟩
    · rw [e]; exact ⟨h, by simp, by simp⟩
    · have hf := round_free _ _ _ _ hh hr
      have hh' := Ck.round_hand _ _ _ _ hh hr
      have hm := held_map h (round_taken _ _ _ _ hr) (pins_round _ _ _ _ hr)
      have hne : r.1 ≠ p := by rintro e'; rw [e'] at hf; exact hf h.2.2
      rw [e]
      exact ⟨hm.upd _ _ fun he => absurd (by omega) hne, by simp, fun _ => ⟨by simp only; omega, by simp only; omega⟩⟩
theorem many_le (S : List Slot) : Ck.many S ≤ S.length := List.countP_le_length
theorem start_length (N p : Nat) : (Ck.upd (Ck.upd (List.replicate N (⟨false, false, 0⟩ : Slot)) p Ck.setF) p Ck.pinF).length = N := by simp
theorem pinsTo_start (N p : Nat) : PinsTo (Ck.upd (Ck.upd (List.replicate N (⟨false, false, 0⟩ : Slot)) p Ck.setF) p Ck.pinF) (0 + 1) :=
  PinsTo.upd (k := 0) (fun n hn => by
    have hn' : n < N := by simpa using hn
    rw [Ck.upd_nat, sl_modify _ _ _ _ (by simpa using hn')]
    have h0 : Ck.sl (List.replicate N (⟨false, false, 0⟩ : Slot)) n = ⟨false, false, 0⟩ := by rw [Ck.sl_get _ _ (by simpa using hn'), List.getElem_replicate]
    split <;> rw [h0] <;> simp [Ck.setF]) _ _ (fun s h0 h1 => by unfold Ck.pinF; split <;> (constructor <;> (try simp only) <;> omega))
theorem held_start (N p : Nat) (hp : p < N) : Held (Ck.upd (Ck.upd (List.replicate N (⟨false, false, 0⟩ : Slot)) p Ck.setF) p Ck.pinF) p := by
  have h0 : Ck.sl (List.replicate N (⟨false, false, 0⟩ : Slot)) p = ⟨false, false, 0⟩ := by rw [Ck.sl_get _ _ (by simpa using hp), List.getElem_replicate]
  rw [Ck.upd_nat, Ck.upd_nat]
  refine ⟨by simpa using hp, ?_⟩
  rw [sl_modify _ _ _ _ (by simpa using hp), sl_modify _ _ _ _ (by simpa using hp), if_pos rfl, if_pos rfl, h0]
  exact ⟨rfl, by decide⟩
theorem start_pins (N p : Nat) : ∀ n, n < (Ck.upd (List.replicate N (⟨false, false, 0⟩ : Slot)) p Ck.setF).length → 0 ≤ (Ck.sl (Ck.upd (List.replicate N (⟨false, false, 0⟩ : Slot)) p Ck.setF) n).pins ∧ (Ck.sl (Ck.upd (List.replicate N (⟨false, false, 0⟩ : Slot)) p Ck.setF) n).pins ≤ 4611686018427387904 := by
  intro n hn
  have hn' : n < N := by simpa using hn
  rw [Ck.upd_nat, sl_modify _ _ _ _ (by simpa using hn')]
  have h0 : Ck.sl (List.replicate N (⟨false, false, 0⟩ : Slot)) n = ⟨false, false, 0⟩ := by rw [Ck.sl_get _ _ (by simpa using hn'), List.getElem_replicate]
  split <;> rw [h0] <;> simp [Ck.setF]
set_option maxRecDepth 100000 in
set_option maxHeartbeats 4000000 in
theorem pins_any (w : World) (n : Int) (v : Value) (pin : Int) (L : List (Int × Int)) (hL : ActsAt w w.heap.size v L) :
    Calls Try.prog 4 #[.int .i64 n, v, .int .i64 pin] w (Gives w (.bool true)) := by
  obtain ⟨va, vc, rfl⟩ := hL.len
  by_cases g1 : n < 1
  · go_enter Try.func4, Try.ntmps4
    go_wp2_with (go_at_call 6; refine (live_any _).mono ?_; rintro e w' ⟨rfl, hf⟩)
    go_ret
    exact ⟨rfl, hf⟩
  have g1' : 1 ≤ n := by omega
  clear g1
  by_cases g2 : 64 < n
  · go_enter Try.func4, Try.ntmps4
    go_wp2_with (go_at_call 6; refine (live_any _).mono ?_; rintro e w' ⟨rfl, hf⟩)
    go_ret
    exact ⟨rfl, hf⟩
  have g2' : n ≤ 64 := by omega
  clear g2
  by_cases g3 : 200 < L.length
  · have g3' : (200 : Int) < L.length := by omega
    go_enter Try.func4, Try.ntmps4
    go_wp2_with (go_at_call 6; refine (live_any _).mono ?_; rintro e w' ⟨rfl, hf⟩)
    go_ret
    exact ⟨rfl, hf⟩
  have g3' : (L.length : Int) ≤ 200 := by omega
  clear g3
  by_cases g4 : pin < 0
  · go_enter Try.func4, Try.ntmps4
    go_wp2_with (go_at_call 6; refine (live_any _).mono ?_; rintro e w' ⟨rfl, hf⟩)
    go_ret
    exact ⟨rfl, hf⟩
  have g4' : 0 ≤ pin := by omega
  clear g4
  by_cases g5 : n ≤ pin
  · go_enter Try.func4, Try.ntmps4
    go_wp2_with (go_at_call 6; refine (live_any _).mono ?_; rintro e w' ⟨rfl, hf⟩)
    go_ret
    exact ⟨rfl, hf⟩
  have g5' : pin < n := by omega
  clear g5
  obtain ⟨N, rfl⟩ := Int.eq_ofNat_of_zero_le (show 0 ≤ n by omega)
  obtain ⟨p, rfl⟩ := Int.eq_ofNat_of_zero_le g4'
  have hN : Ck.newN N = N := by unfold Ck.newN; omega
  have HN := Lib.hid hN
  clear hN
  go_enter Try.func4, Try.ntmps4
  go_wp2_with fail
  refine (new_any w N).mono ?_
  rw [HN.out]
  rintro e w1 ⟨b, bl, rfl, hb, hbl, hC, hf1⟩
  have hp : p < N := by omega
  go_wp2_with fail
  refine (set_any w1 b bl _ 0 p hC).mono ?_
  rintro e w2 ⟨rfl, hC2, hf2⟩
  go_wp2_with fail
  refine (pin_any w2 b bl _ 0 p hC2 (start_pins N p)).mono ?_
  rintro e w3 ⟨rfl, hC3, hf3⟩
  have HS := Lib.hid (held_start N p hp)
  have HP := Lib.hid (pinsTo_start N p)
  have HL := Lib.hid (start_length N p)
  have hnew : ∀ x ∈ [b, bl], x ∈ ([] : List Nat) ∨ w.heap.size ≤ x := by simp; omega
  have E := Lib.hid hnew
  clear hnew
  have hF3 : Frm [] w w3 := (hf1.trans hf2 (by have := E.out; intro x hx; exact this x (by simp at hx; simp [hx]))).trans hf3 (by have := E.out; intro x hx; exact this x (by simp at hx; simp [hx]))
  have hA3 := hL.cell hF3 (by simp) (Nat.le_refl _)
  revert hC3 HS HP HL
  generalize Ck.upd (Ck.upd (List.replicate N (⟨false, false, 0⟩ : Slot)) p Ck.setF) p Ck.pinF = S0
  intro hC3 HS HP HL
  clear hC hC2 hf1 hf2 hf3
  go_wp2
  go_loopw [8] (fun i wr => ∃ (k : Nat) (S : List Slot) (h : Nat), i = .int .i64 k ∧ k ≤ L.length ∧ Hid (S.length = N) ∧ h < S.length ∧ Hid (Held S p) ∧ Hid (PinsTo S (k + 1)) ∧ ClockIs wr b bl S h ∧ Frm [] w wr ∧ ActsAt wr w.heap.size (.slice va L.length vc) L) (fun i _ => L.length - (intOf i).toNat)
  case atStart => exact ⟨0, S0, 0, rfl, Nat.zero_le _, HL.out, by rw [HL.out]; omega, HS.out, HP.out, hC3, hF3, hA3⟩
  case round =>
    obtain ⟨k, S, h, rfl, hk, hS, hH, hHe, hP, hCr, hFr, hAr⟩ := hrel
    by_cases hlt : k < L.length
    · obtain ⟨ab, ao, ac, hv, hab, c0, c1⟩ := hAr.cells k hlt
      obtain ⟨rfl, rfl⟩ : va = some ⟨ab, ao, none⟩ ∧ vc = ac := by simpa using hv
      clear hv
      generalize (L.getD k (0, 0)).1 = d at c0
      generalize (L.getD k (0, 0)).2 = i at c1
      have hS64 : S.length ≤ 64 := by have := hS.out; omega
      by_cases hs : i = p ∧ (d = 3 ∨ d = 4)
      · obtain ⟨rfl, hd⟩ := hs
        rcases hd with rfl | rfl
        · go_wp2
          go_roundw
          case rel => exact ⟨k + 1, S, h, by go_num, by omega, hS, hH, hHe, hP.out.succ, hCr, hFr, hAr⟩
          case measure => simp [intOf]; omega
        · go_wp2
          go_roundw
          case rel => exact ⟨k + 1, S, h, by go_num, by omega, hS, hH, hHe, hP.out.succ, hCr, hFr, hAr⟩
          case measure => simp [intOf]; omega
      · have Hs := Lib.hid hs
        clear hs
        go_upto_region 9 with (fail)
        go_cut [68] (fun x wc => x = .bool false ∧ wc = wr)
        case first =>
          have hs := Hs.out
          by_cases e1 : i = p
          · have e1' : (i == (p : Int)) = true := by simpa using e1
            have e3 : (d == 3) = false := beq_eq_false_iff_ne.2 (fun h => hs ⟨e1, .inl h⟩)
            have e4 : (d == 4) = false := beq_eq_false_iff_ne.2 (fun h => hs ⟨e1, .inr h⟩)
            clear hs e1
            go_wp2
            go_meet
            case rel => exact ⟨rfl, rfl⟩
          · have e1' : (i == (p : Int)) = false := beq_eq_false_iff_ne.2 e1
            clear hs e1
            go_wp2
            go_meet
            case rel => exact ⟨rfl, rfl⟩
        case rest =>
          obtain ⟨rfl, rfl⟩ := hcut
          go_upto_if 74 with (fail)
          go_cut [74] (fun _ wd => ∃ (S : List Slot) (h : Nat), Hid (S.length = N) ∧ h < S.length ∧ Hid (Held S p) ∧ Hid (PinsTo S (k + 2)) ∧ ClockIs wd b bl S h ∧ Frm [] w wd ∧ ActsAt wd w.heap.size (.slice (some ⟨ab, ao, none⟩) L.length vc) L)
          case first =>
            have hS4 : S.length ≤ 4096 := by omega
            have hP0 := Lib.hid (fun n hn => (hP.out n hn).1)
            by_cases hd : d = 0
            · subst hd
              have HT := Lib.hid (held_take hHe.out hH)
              have HTl := Lib.hid (take_length S h)
              have HTp := Lib.hid (hP.out.take h)
              have HTh := Lib.hid (take_hand S h (fun _ => hH) (by omega))
              go_wp2_with fail
              refine (take_any _ b bl S h hCr hS4 (fun _ => hH) hP0.out).mono ?_
              revert HT HTl HTp HTh
              generalize Ck.take S h = r
              obtain ⟨k', ok, S', h'⟩ := r
              intro HT HTl HTp HTh
              rintro e w4 ⟨rfl, hC4, hF4⟩
              simp only at hC4 HT HTl HTp HTh ⊢
              have hF4' := hFr.trans hF4 E.out
              have hA4 := hAr.cell hF4 (by have := E.out; simpa using this) hFr.size
              cases ok with
              | false =>
                go_wp2
                go_meet
                case rel => exact ⟨S', h', HTl.out.trans hS.out, by rw [HTl.out]; exact HTh.out, HT.out.1, HTp.out, hC4, hF4', hA4⟩
              | true =>
                obtain ⟨t1, t2, t3⟩ := HT.out
                obtain ⟨t3, t4⟩ := t3 rfl
                have q1 : (k' == (p : Int)) = false := beq_eq_false_iff_ne.2 t4
                have q3 : k' < (N : Int) := by have := hS.out; omega
                have t1' := Lib.hid t1
                clear HT t1 t3 t4
                go_wp2
                go_meet
                case rel => exact ⟨S', h', HTl.out.trans hS.out, by rw [HTl.out]; exact HTh.out, t1'.out, HTp.out, hC4, hF4', hA4⟩
            · have hd' : (d == 0) = false := beq_eq_false_iff_ne.2 hd
              have Hd := Lib.hid hd
              clear hd
              have hdr : Frm [] wc wc.drew := (Frm.refl [] wc).drew
              have hz : w.heap.size ≤ wc.drew.heap.size := hFr.size
              have hPp := Lib.hid (hP.out.pinned (by omega))
              have hPn := Lib.hid ((pinsTo_new N 0).pinned (by omega))
              have hCd := hCr.drew
              have hFd := hFr.drew
              have hblt := hCr.size
              have habw : ab < wc.drew.heap.size := by have := hFr.size; show ab < wc.heap.size; omega
              have HK := Lib.hid (hHe.out.deed d i Hs.out)
              have HL2 := Lib.hid ((deed_length d i S).trans hS.out)
              have HP2 := Lib.hid (hP.out.deed d i)
              go_wp2
              go_region_with (first
                | (go_at_call 13; refine (rnew_any _ N).mono ?_; rw [HN.out]; rintro e w5 ⟨rb, rt, ru, rp, rfl, hb1, hb2, hb3, hb4, hR5, hF5⟩; have hC5 := hCd.frm hF5 (by simp) (by simp); have c0' := (hF5.cell (p := ⟨ab, ao + k * 2, none⟩) habw (by simp)).trans c0; have c1' := (hF5.cell (p := ⟨ab, ao + k * 2 + 1, none⟩) habw (by simp)).trans c1)
                | (go_at_call 12; refine (do_else _ b bl rb rt ru rp S (List.replicate N ⟨false, false, 0⟩) h 0 d i Hd.out hC5 hR5 hPp.out hPn.out (by have h1 : b < wc.drew.heap.size := hblt.1; have h2 : bl < wc.drew.heap.size := hblt.2; simp; omega)).mono ?_; rintro e w6 ⟨rfl, hC6, hR6, hF6⟩))
              all_goals
                have hF7 : Frm [] w w6 := (hFd.trans' hF5).trans hF6 (by have := E.out; simp at this ⊢; omega)
                have hA7 := hAr.cell (F := [b, bl, rb, rt, ru, rp]) ((hdr.trans' hF5).nil.trans' hF6) (by have := E.out; simp at this ⊢; omega) hFr.size
                go_wp2
                go_meet
                case rel => exact ⟨_, h, HL2.out, by rw [deed_length]; exact hH, HK.out, HP2.out, hC6, hF7, hA7⟩
          case rest =>
            obtain ⟨S', h', hS', hH', hHe', hP', hC', hF', hA'⟩ := hcut
            have ht := Lib.hid (show Ck.takenB S' p = true by rw [Ck.takenB_nat _ _ hHe'.out.1]; exact hHe'.out.2.1)
            have hm : Ck.many S' ≤ N := by have := many_le S'; have := hS'.out; omega
            have hS4' : S'.length ≤ 4096 := by have := hS'.out; omega
            go_wp2_with (first
              | (go_at_call 14; refine (taken_any _ b bl S' h' p hC').mono ?_; rintro e w5 ⟨rfl, rfl⟩; rw [ht.out])
              | (go_at_call 15; refine (many_any _ b bl S' h' hC' hS4').mono ?_; rintro e w5 ⟨rfl, rfl⟩))
            go_roundw
            case rel => exact ⟨k + 1, S', h', by go_num, by omega, hS', hH', hHe', hP', hC', hF', hA'⟩
            case measure => simp [intOf]; omega
    · go_wp2_with (go_at_call 6; refine (live_any _).mono ?_; rintro e w9 ⟨rfl, hf9⟩)
      go_ret
      exact ⟨rfl, hFr.trans' hf9⟩
end Go.Proofs.Ytcncfloigaiojaa
