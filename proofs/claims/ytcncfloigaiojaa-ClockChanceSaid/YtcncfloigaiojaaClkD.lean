/- The stage's theorem, walked. -/
import Derived.Test.YtcncfloigaiojaaClkL2
import Derived.Test.YtcncfloigaiojaaPhase
import Derived.Deep.CutRange
import Derived.Deep.DeepCutAuto
namespace Go.Proofs.Ytcncfloigaiojaa
open Go Go.RowKit Go.Proofs

/-- what one act comes to -/
def stepS (S : List Slot) (h : Nat) (d i : Int) : List Slot × Nat := if d = 0 then ((Ck.take S h).2.2.1, (Ck.take S h).2.2.2) else (deed d i S, h)
/-- pins of k acts -/
def PinsTo (S : List Slot) (k : Nat) : Prop := ∀ n, n < S.length → 0 ≤ (Ck.sl S n).pins ∧ (Ck.sl S n).pins ≤ k
theorem PinsTo.pinned {S : List Slot} {k : Nat} (h : PinsTo S k) (hk : k ≤ 1000) : Pinned S := fun n hn => ⟨(h n hn).1, by have := (h n hn).2; omega⟩
theorem PinsTo.modify {S : List Slot} {k : Nat} (h : PinsTo S k) (i : Nat) (f : Slot → Slot) (hf : ∀ s : Slot, 0 ≤ s.pins → s.pins ≤ k → 0 ≤ (f s).pins ∧ (f s).pins ≤ k + 1) : PinsTo (S.modify i f) (k + 1) := by
  intro n hn
  have hn' : n < S.length := by simpa using hn
  rw [Ck.sl_get _ _ hn, List.getElem_modify]
  have := h n hn'
  rw [Ck.sl_get _ _ hn'] at this
  split
  · exact hf _ this.1 this.2
  · exact ⟨this.1, by omega⟩
theorem PinsTo.upd {S : List Slot} {k : Nat} (h : PinsTo S k) (i : Int) (f : Slot → Slot) (hf : ∀ s : Slot, 0 ≤ s.pins → s.pins ≤ k → 0 ≤ (f s).pins ∧ (f s).pins ≤ k + 1) : PinsTo (Ck.upd S i f) (k + 1) := by
  unfold Ck.upd
  split
  · exact h.modify _ f hf
  · exact fun n hn => ⟨(h n hn).1, by have := (h n hn).2; omega⟩
theorem PinsTo.succ {S : List Slot} {k : Nat} (h : PinsTo S k) : PinsTo S (k + 1) := fun n hn => ⟨(h n hn).1, by have := (h n hn).2; omega⟩
theorem PinsTo.deed {S : List Slot} {k : Nat} (h : PinsTo S k) (d i : Int) : PinsTo (deed d i S) (k + 1) := by
  unfold Go.Proofs.Ytcncfloigaiojaa.deed
  split
  · exact h.upd i _ fun s h0 h1 => by unfold Ck.useF; split <;> (constructor <;> (try simp only) <;> omega)
  split
  · exact h.upd i _ fun s h0 h1 => by unfold Ck.pinF; split <;> (constructor <;> (try simp only) <;> omega)
  split
  · exact h.upd i _ fun s h0 h1 => by unfold Ck.unpinF; split <;> (constructor <;> (try simp only) <;> omega)
  split
  · exact h.upd i _ fun s h0 h1 => by unfold Ck.freeF; simp; omega
  split
  · exact h.upd i _ fun s h0 h1 => by unfold Ck.setF; simp; omega
  · exact h.succ
theorem pins_round (k : Nat) : ∀ (S : List Slot) (h : Nat) (r : Nat × List Slot × Nat), Ck.round k S h = some r → r.2.1.map (·.pins) = S.map (·.pins) := by
  induction k with
  | zero => intro S h r e; simp [Ck.round] at e
  | succ k ih =>
    intro S h r e
    unfold Ck.round at e
    split at e
    · exact ih _ _ _ e
    · split at e
      · have := ih _ _ _ e
        rw [this, map_modify_eq]; intro s; rfl
      · cases e; rfl
theorem PinsTo.map {S S' : List Slot} {k : Nat} (h : PinsTo S k) (e : S'.map (·.pins) = S.map (·.pins)) : PinsTo S' k := by
  intro n hn
  have hlen : S'.length = S.length := by have := congrArg List.length e; simpa using this
  have hn' : n < S.length := by omega
  have : (S'.map (·.pins))[n]? = (S.map (·.pins))[n]? := by rw [e]
  simp only [List.getElem?_map, Ck.sl_some S' n hn, Ck.sl_some S n hn', Option.map_some, Option.some.injEq] at this
  rw [this]; exact h n hn'
theorem take_cases (S : List Slot) (h : Nat) : (∃ i : Nat, i < S.length ∧ Ck.take S h = ((i : Int), true, Ck.upd S i Ck.setF, h)) ∨ Ck.take S h = (0, false, S, h) ∨
    ∃ r, Ck.round (2 * S.length) S h = some r ∧ Ck.take S h = ((r.1 : Int), true, Ck.upd r.2.1 r.1 Ck.setF, r.2.2) := by
  cases hi : S.findIdx? (fun s => !s.taken) with
  | some i =>
    have hlt := (List.findIdx?_eq_some_iff_getElem.1 hi).1
    exact .inl ⟨i, hlt, by simp [Ck.take, hi]⟩
  | none =>
    cases ha : S.any (fun s => s.pins == 0) with
    | false => exact .inr (.inl (take_no S h hi ha))
    | true =>
      cases hr : Ck.round (2 * S.length) S h with
      | none => refine .inr (.inl ?_); simp only [Ck.take, hi, ha, hr]; rfl
      | some r => exact .inr (.inr ⟨r, rfl, take_r S h r hi ha hr⟩)
theorem PinsTo.take {S : List Slot} {k : Nat} (h : PinsTo S k) (hd : Nat) : PinsTo (Ck.take S hd).2.2.1 (k + 1) := by
  rcases take_cases S hd with ⟨i, _, e⟩ | e | ⟨r, hr, e⟩
  · rw [e]; exact h.upd _ _ fun s h0 h1 => by unfold Ck.setF; simp; omega
  · rw [e]; exact h.succ
  · rw [e]; exact (h.map (pins_round _ _ _ _ hr)).upd _ _ fun s h0 h1 => by unfold Ck.setF; simp; omega
theorem deed_length (d i : Int) (S : List Slot) : (deed d i S).length = S.length := by
  unfold deed; repeat' split
  all_goals first | rfl | exact Ck.upd_length _ _ _
theorem take_length (S : List Slot) (h : Nat) : (Ck.take S h).2.2.1.length = S.length := by
  rcases take_cases S h with ⟨i, _, e⟩ | e | ⟨r, hr, e⟩
  · rw [e]; simp
  · rw [e]
  · rw [e]; simp [Ck.round_len _ _ _ _ hr]
theorem take_hand (S : List Slot) (h : Nat) (hh : S.length ≠ 0 → h < S.length) : S.length ≠ 0 → (Ck.take S h).2.2.2 < S.length := by
  intro hne
  rcases take_cases S h with ⟨i, _, e⟩ | e | ⟨r, hr, e⟩
  · rw [e]; exact hh hne
  · rw [e]; exact hh hne
  · rw [e]; exact (Ck.round_hand _ _ _ _ (hh hne) hr).2
theorem stepS_len (S : List Slot) (h : Nat) (d i : Int) : (stepS S h d i).1.length = S.length := by
  unfold stepS; split
  · exact take_length S h
  · exact deed_length d i S
theorem stepS_hand (S : List Slot) (h : Nat) (d i : Int) (hh : S.length ≠ 0 → h < S.length) : (stepS S h d i).1.length ≠ 0 → (stepS S h d i).2 < (stepS S h d i).1.length := by
  rw [stepS_len]
  unfold stepS; split
  · exact take_hand S h hh
  · exact hh
theorem PinsTo.step {S : List Slot} {k : Nat} (h : PinsTo S k) (hd : Nat) (d i : Int) : PinsTo (stepS S hd d i).1 (k + 1) := by
  unfold stepS; split
  · exact h.take hd
  · exact h.deed d i
/-- one act on both: they stay the same -/
def Did (w : World) (b bl rb rt ru rp : Nat) (r : List Slot × Nat) (e : Ending) (w' : World) : Prop :=
  e = .returned (.bool true) ∧ ClockIs w' b bl r.1 r.2 ∧ RefIs w' rb rt ru rp r.1 r.2 ∧ Frm [b, bl, rb, rt, ru, rp] w w'
theorem do_did (w : World) (b bl rb rt ru rp : Nat) (S : List Slot) (h : Nat) (d i : Int) (hC : ClockIs w b bl S h) (hR : RefIs w rb rt ru rp S h) (hn : S.length ≤ 4096) (hh : S.length ≠ 0 → h < S.length) (hp : Pinned S)
    (hd : ∀ x ∈ [b, bl], x ∉ [rb, rt, ru, rp]) :
    Calls Try.prog 12 #[.pointer (some ⟨b, 0, none⟩), .pointer (some ⟨rb, 0, none⟩), .agg #[.int .i64 d, .int .i64 i]] w (Did w b bl rb rt ru rp (stepS S h d i)) := by
  by_cases e : d = 0
  · subst e
    have : stepS S h 0 i = ((Ck.take S h).2.2.1, (Ck.take S h).2.2.2) := if_pos rfl
    rw [this]
    exact (do_0 w b bl rb rt ru rp S h i hC hR hn hh hp hd).mono fun _ _ h => h
  · have : stepS S h d i = (deed d i S, h) := if_neg e
    rw [this]
    exact (do_else w b bl rb rt ru rp S S h h d i e hC hR hp hp hd).mono fun _ _ h => h

/-- acts in memory: the slice's value, its acts; they lie below block B -/
structure ActsAt (w : World) (B : Nat) (v : Value) (L : List (Int × Int)) : Prop where
  len : ∃ a c, v = .slice a L.length c
  cells : ∀ k, k < L.length → ∃ b o c, v = .slice (some ⟨b, o, none⟩) L.length c ∧ b < B ∧ w.cell? ⟨b, o + k * 2, none⟩ = some (.int .i64 (L.getD k (0, 0)).1) ∧ w.cell? ⟨b, o + k * 2 + 1, none⟩ = some (.int .i64 (L.getD k (0, 0)).2)
theorem ActsAt.cell {w w' : World} {B : Nat} {v : Value} {L : List (Int × Int)} {F : List Nat} (h : ActsAt w B v L) (hf : Frm F w w') (hF : ∀ x ∈ F, B ≤ x) (hB : B ≤ w.heap.size) : ActsAt w' B v L := by
  refine ⟨h.len, fun k hk => ?_⟩
  obtain ⟨b, o, c, h1, h2, h3, h4⟩ := h.cells k hk
  have hb : w'.heap[b]? = w.heap[b]? := hf.block b (by omega) (fun hm => by have := hF b hm; omega)
  exact ⟨b, o, c, h1, h2, (World.cell?_of_block hb).trans h3, (World.cell?_of_block hb).trans h4⟩

theorem pinsTo_new (n k : Nat) : PinsTo (List.replicate n ⟨false, false, 0⟩) k := fun m hm => by rw [Ck.sl_get _ _ hm, List.getElem_replicate]; simp
theorem RefIs.drew {w : World} {b bt bu bp : Nat} {S : List Slot} {hd : Nat} (h : RefIs w b bt bu bp S hd) : RefIs w.drew b bt bu bp S hd := ⟨h.n1, h.n2, h.n3, h.n4, h.n5, h.n6, h.top, h.tk, h.us, h.pn⟩
set_option maxHeartbeats 4000000 in
theorem does_any (w : World) (n : Int) (v : Value) (L : List (Int × Int)) (hL : ActsAt w w.heap.size v L) :
    Calls Try.prog 5 #[.int .i64 n, v] w (Gives w (.bool true)) := by
  obtain ⟨va, vc, rfl⟩ := hL.len
  by_cases hlen : 200 < L.length
  · go_enter Try.func5, Try.ntmps5
    go_wp2_with (go_at_call 6; refine (live_any _).mono ?_; rintro e w' ⟨rfl, hf⟩)
    go_ret
    exact ⟨rfl, hf⟩
  go_enter Try.func5, Try.ntmps5
  go_wp2_with fail
  refine (new_any w n).mono ?_
  rintro e w1 ⟨b, bl, rfl, hb, hbl, hC, hf1⟩
  have hs1 := hC.size
  go_wp2_with fail
  refine (rnew_any w1 n).mono ?_
  rintro e w2 ⟨rb, rt, ru, rp, rfl, hrb, hrt, hru, hrp, hR, hf2⟩
  have hC2 := hC.frm hf2 (by simp) (by simp)
  have hF2 := hf1.trans' hf2
  have hnl : Ck.newN n ≤ 64 := by unfold Ck.newN; omega
  have hA2 := hL.cell hF2 (by simp) (Nat.le_refl _)
  have hdis : ∀ x ∈ [b, bl], x ∉ [rb, rt, ru, rp] := by simp; omega
  have hnew : ∀ x ∈ [b, bl, rb, rt, ru, rp], x ∈ ([] : List Nat) ∨ w.heap.size ≤ x := by have := hf1.size; simp; omega
  have D := Lib.hid hdis
  have E := Lib.hid hnew
  clear hdis hnew
  go_wp2
  go_loopw [7] (fun i wr => ∃ (k : Nat) (S : List Slot) (h : Nat), i = .int .i64 k ∧ k ≤ L.length ∧ S.length ≤ 64 ∧ Hid (S.length ≠ 0 → h < S.length) ∧ Hid (PinsTo S k) ∧ ClockIs wr b bl S h ∧ RefIs wr rb rt ru rp S h ∧ Frm [] w wr ∧ ActsAt wr w.heap.size (.slice va L.length vc) L) (fun i _ => L.length - (intOf i).toNat)
  case atStart => exact ⟨0, _, 0, rfl, Nat.zero_le _, by simpa using hnl, fun h => Nat.pos_of_ne_zero h, pinsTo_new _ _, hC2, hR, hF2, hA2⟩
  case round =>
    obtain ⟨k, S, h, rfl, hk, hS, hH, hP, hCr, hRr, hFr, hAr⟩ := hrel
    by_cases hlt : k < L.length
    · obtain ⟨ab, ao, ac, hv, hab, c0, c1⟩ := hAr.cells k hlt
      obtain ⟨rfl, rfl⟩ : va = some ⟨ab, ao, none⟩ ∧ vc = ac := by simpa using hv
      clear hv
      generalize (L.getD k (0, 0)).1 = d at c0
      generalize (L.getD k (0, 0)).2 = i at c1
      go_upto_region 7 with (fail)
      go_cut [65] (fun x wc => x = .bool false ∧ ∃ (S : List Slot) (h : Nat), S.length ≤ 64 ∧ Hid (S.length ≠ 0 → h < S.length) ∧ Hid (PinsTo S (k + 1)) ∧ ClockIs wc b bl S h ∧ RefIs wc rb rt ru rp S h ∧ Frm [] w wc ∧ ActsAt wc w.heap.size (.slice (some ⟨ab, ao, none⟩) L.length vc) L)
      case rest =>
        obtain ⟨rfl, S', h', hS', hH', hP', hC', hR', hF', hA'⟩ := hcut
        go_wp2
        go_roundw
        case rel => exact ⟨k + 1, S', h', by go_num, by omega, hS', hH', hP', hC', hR', hF', hA'⟩
        case measure => simp [intOf]; omega
      case first =>
        have hS4 : S.length ≤ 4096 := by omega
        have hPp := Lib.hid (hP.out.pinned (by omega))
        have hSt := Lib.hid (show (stepS S h d i).1.length ≤ 64 by rw [stepS_len]; exact hS)
        have hSh := Lib.hid (stepS_hand S h d i hH.out)
        have hSp := Lib.hid (hP.out.step h d i)
        refine wp_region_plan [6, 34] (by kernel_rfl) (by kernel_rfl) ?_
        change wpQuiet _ _ _ _ _ _
        simp only [List.take_succ_cons, List.take_zero, List.drop_succ_cons, List.drop_zero]
        repeat (go_big_quiet_step (fail))
        refine wpQuiet_nil ?_
        intro w5 hw5
        have hF5 : Frm [] wr w5 := Frm.dr' hw5
        clear hw5
        have hC5 := hCr.frm hF5 (by simp) (by simp)
        have hR5 := hRr.frm hF5 (by simp) (by simp) (by simp) (by simp)
        have hA5 := hAr.cell hF5 (by simp) hFr.size
        have hFw := hFr.trans' hF5
        go_wp2_with fail
        refine (do_did _ b bl rb rt ru rp S h d i hC5 hR5 hS4 hH.out hPp.out D.out).mono ?_
        generalize stepS S h d i = r at hSt hSh hSp ⊢
        rintro e w3 ⟨rfl, hC3, hR3, hF3⟩
        have hr4 : r.1.length ≤ 4096 := by have := hSt.out; omega
        obtain ⟨e0, e1, e2, e3, e4⟩ := hR3.cells
        have hFw3 : Frm [] w w3 := hFw.trans hF3 E.out
        have hA3 := hA5.cell hF3 (by have := E.out; simpa using this) hFw.size
        have hF53 : Frm [b, bl, rb, rt, ru, rp] wr w3 := hF5.nil.trans' hF3
        have c2 : w3.cell? ⟨ab, ao + k * 2 + 1, none⟩ = some (.int .i64 i) := (hF53.cell (p := ⟨ab, ao + k * 2 + 1, none⟩) (by have := hFr.size; simp; omega) (by have := E.out; intro hm; have := this ab hm; simp at this; omega)).trans c1
        go_wp2_with fail
        change wpQuiet _ _ _ _ _ _
        simp only [List.take_succ_cons, List.take_zero, List.drop_succ_cons, List.drop_zero]
        have hCn : ∀ n, ClockIs (w3.drewN n) b bl r.1 r.2 := fun n => hC3.frm ((Frm.refl [] w3).drewN n) (by simp) (by simp)
        have hRn : ∀ n, RefIs (w3.drewN n) rb rt ru rp r.1 r.2 := fun n => hR3.frm ((Frm.refl [] w3).drewN n) (by simp) (by simp) (by simp) (by simp)
        repeat (go_big_quiet_step ((first
          | (go_at_call 15; exact quiet_left (many_any _ b bl _ _ (hCn _) hr4))
          | (go_at_call 16; exact quiet_left (rmany_any _ rb rt ru rp _ _ (hRn _) hr4))
          | (go_at_call 17; exact quiet_left (hand_any _ b bl _ _ (hCn _)))
          | (go_at_call 14; exact quiet_left (taken_any _ b bl _ _ i (hCn _)))
          | (go_at_call 18; exact quiet_left (rhas_any _ rb rt ru rp _ _ i (hRn _))))))
        refine wpQuiet_nil ?_
        intro w6 hw6
        have hF6 : Frm [] w3 w6 := Frm.dr hw6
        clear hw6
        go_wp2
        go_meet
        case rel => exact ⟨rfl, r.1, r.2, hSt.out, hSh.out, hSp.out, hC3.frm hF6 (by simp) (by simp), hR3.frm hF6 (by simp) (by simp) (by simp) (by simp), hFw3.trans' hF6, hA3.cell hF6 (by simp) hFw3.size⟩
    · have nl := use_nil
      go_wp2_with (first
        | (go_at_call 9; refine (use_nil _ 0).mono ?_; rintro e w9 ⟨rfl, rfl⟩)
        | (go_at_call 11; refine (pin_nil _ 0).mono ?_; rintro e w9 ⟨rfl, rfl⟩)
        | (go_at_call 19; refine (unpin_nil _ 0).mono ?_; rintro e w9 ⟨rfl, rfl⟩)
        | (go_at_call 20; refine (free_nil _ 0).mono ?_; rintro e w9 ⟨rfl, rfl⟩)
        | (go_at_call 10; refine (set_nil _ 0).mono ?_; rintro e w9 ⟨rfl, rfl⟩)
        | (go_at_call 8; refine (take_nil _).mono ?_; rintro e w9 ⟨rfl, rfl⟩)
        | (go_at_call 15; refine (many_nil _).mono ?_; rintro e w9 ⟨rfl, rfl⟩)
        | (go_at_call 17; refine (hand_nil _).mono ?_; rintro e w9 ⟨rfl, rfl⟩)
        | (go_at_call 14; refine (taken_nil _ 0).mono ?_; rintro e w9 ⟨rfl, rfl⟩)
        | (go_at_call 6; refine (live_any _).mono ?_; rintro e w9 ⟨rfl, hf9⟩))
      go_ret
      exact ⟨rfl, hFr.trans' hf9⟩
end Go.Proofs.Ytcncfloigaiojaa
