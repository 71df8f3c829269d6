/- The second chance, walked. -/
import Derived.Test.YtcncfloigaiojaaClkC
namespace Go.Proofs.Ytcncfloigaiojaa
open Go Go.RowKit Go.Proofs

/-- bytes in memory, below block B -/
structure BytesAt (w : World) (B : Nat) (v : Value) (Z : List Nat) : Prop where
  len : ∃ a c, v = .slice a Z.length c
  cells : ∀ k, k < Z.length → ∃ b o c, v = .slice (some ⟨b, o, none⟩) Z.length c ∧ b < B ∧ w.cell? ⟨b, o + k, none⟩ = some (.int .u8 (Z.getD k 0)) ∧ Z.getD k 0 < 256
theorem BytesAt.cell {w w' : World} {B : Nat} {v : Value} {Z : List Nat} {F : List Nat} (h : BytesAt w B v Z) (hf : Frm F w w') (hF : ∀ x ∈ F, B ≤ x) (hB : B ≤ w.heap.size) : BytesAt w' B v Z := by
  refine ⟨h.len, fun k hk => ?_⟩
  obtain ⟨b, o, c, h1, h2, h3, h4⟩ := h.cells k hk
  have hb : w'.heap[b]? = w.heap[b]? := hf.block b (by omega) (fun hm => by have := hF b hm; omega)
  exact ⟨b, o, c, h1, h2, (World.cell?_of_block hb).trans h3, h4⟩
/-- truths in memory -/
def BoolsAt (w : World) (b : Nat) (W : List Bool) : Prop := w.heap[b]? = some (.cells (W.map Value.bool).toArray 4 (0, 0))
theorem BoolsAt.get {w : World} {b : Nat} {W : List Bool} (h : BoolsAt w b W) (k : Nat) (hk : k < W.length) : w.cell? ⟨b, k, none⟩ = some (.bool (W.getD k true)) ∧ w.frozen? ⟨b, k, none⟩ = false := by
  unfold BoolsAt at h
  simp [World.cell?, World.frozen?, h, hk]
theorem BoolsAt.store {w : World} {b : Nat} {W : List Bool} (h : BoolsAt w b W) (k : Nat) (x : Bool) : BoolsAt (w.setCell ⟨b, k, none⟩ (.bool x)) b (W.set k x) := by
  unfold BoolsAt
  rw [block_setCell h]
  simp [List.map_set]
theorem BoolsAt.frm {w w' : World} {b : Nat} {W : List Bool} {F : List Nat} (h : BoolsAt w b W) (hf : Frm F w w') (hn : b ∉ F) : BoolsAt w' b W := hf.get h hn
/-- the used ones from h on are those that were -/
def Same (S : List Slot) (W : List Bool) (h : Nat) : Prop := ∀ t, h ≤ t → t < S.length → (Ck.sl S t).used = W.getD t true
theorem fillS_pins (n i : Nat) (h : i ≤ n) : ∀ k, k < (fillS n i).length → 0 ≤ (Ck.sl (fillS n i) k).pins := by
  intro k hk
  rw [fillS_length n i h] at hk
  rw [fillS_get n i k h hk]
  split <;> simp
theorem fill_zero (n : Nat) : fillS n 0 = List.replicate n ⟨false, false, 0⟩ := by simp [fillS]
theorem same_use {S : List Slot} {W : List Bool} (hF : Full S) (hs : Same S W 1) (hl : W.length = S.length) (q : Nat) (hq : q < S.length) : Same (Ck.upd S q Ck.useF) (W.set q true) 1 := by
  intro t h1 h2
  rw [Ck.upd_length] at h2
  rw [sl_use S hF q t h2, getD_set _ _ _ _ (by omega)]
  split
  · rfl
  · exact hs t h1 h2
theorem fresh_new (n : Nat) (hn : 1 ≤ n) : fresh (List.replicate n false) 1 = n - 1 := by
  unfold fresh
  rw [List.drop_replicate, List.countP_replicate]; simp
set_option maxRecDepth 100000 in
set_option maxHeartbeats 4000000 in
theorem chance_any (w : World) (n : Int) (v : Value) (Z : List Nat) (hZ : BytesAt w w.heap.size v Z) :
    Calls Try.prog 3 #[.int .i64 n, v] w (Gives w (.bool true)) := by
  obtain ⟨va, vc, rfl⟩ := hZ.len
  by_cases g1 : n < 2
  · go_enter Try.func3, Try.ntmps3
    go_wp2_with (go_at_call 6; refine (live_any _).mono ?_; rintro e w' ⟨rfl, hf⟩)
    go_ret
    exact ⟨rfl, hf⟩
  have g1' : 2 ≤ n := by omega
  clear g1
  by_cases g2 : 64 < n
  · go_enter Try.func3, Try.ntmps3
    go_wp2_with (go_at_call 6; refine (live_any _).mono ?_; rintro e w' ⟨rfl, hf⟩)
    go_ret
    exact ⟨rfl, hf⟩
  have g2' : n ≤ 64 := by omega
  clear g2
  by_cases g3 : 100 < Z.length
  · have g3' : (100 : Int) < Z.length := by omega
    go_enter Try.func3, Try.ntmps3
    go_wp2_with (go_at_call 6; refine (live_any _).mono ?_; rintro e w' ⟨rfl, hf⟩)
    go_ret
    exact ⟨rfl, hf⟩
  have g3' : (Z.length : Int) ≤ 100 := by omega
  clear g3
  obtain ⟨N, rfl⟩ := Int.eq_ofNat_of_zero_le (show 0 ≤ n by omega)
  have hN : Ck.newN N = N := by unfold Ck.newN; omega
  have HN := Lib.hid hN
  clear hN
  obtain ⟨i0, hi, hz0, hz1, hz2⟩ := info_parts info_bool
  have hmk := fun (W : World) => run_make (P := Try.prog) W 28 4 i0 _ Try.underlying28 hi hz0 .i64 .i64 N N (by omega) (by omega) (by rw [hz2]; omega) (by omega)
  rw [hz1] at hmk
  clear hi hz0 hz1 hz2
  have HM := Lib.hid hmk
  clear hmk
  go_enter Try.func3, Try.ntmps3
  go_wp2_with fail
  refine (new_any w N).mono ?_
  rw [HN.out]
  rintro e w1 ⟨b, bl, rfl, hb, hbl, hC, hf1⟩
  have hnew : ∀ x ∈ [b, bl], x ∈ ([] : List Nat) ∨ w.heap.size ≤ x := by simp; omega
  have E := Lib.hid hnew
  clear hnew
  rw [← fill_zero] at hC
  go_wp2
  go_loopw [6] (fun i wr => ∃ k : Nat, i = .int .i64 k ∧ k ≤ N ∧ ClockIs wr b bl (fillS N k) 0 ∧ Frm [] w wr) (fun i _ => N - (intOf i).toNat)
  case atStart => exact ⟨0, rfl, Nat.zero_le _, hC, hf1⟩
  case round =>
    obtain ⟨k, rfl, hk, hCr, hFr⟩ := hrel
    by_cases hlt : k < N
    · have HT := Lib.hid (fill_take N k hlt)
      have hl4 : (fillS N k).length ≤ 4096 := by rw [fillS_length N k hk]; omega
      have hh := Lib.hid (show (fillS N k).length ≠ 0 → 0 < (fillS N k).length by omega)
      have hpn := Lib.hid (fillS_pins N k hk)
      go_wp2_with (go_at_call 8; refine (take_any _ b bl _ 0 hCr hl4 hh.out hpn.out).mono ?_; rw [HT.out]; rintro e w2 ⟨rfl, hC2, hF2⟩; simp only at hC2)
      go_roundw
      case rel => exact ⟨k + 1, by go_num, by omega, hC2, hFr.trans hF2 E.out⟩
      case measure => simp [intOf]; omega
    · have hkN : k = N := by omega
      subst hkN
      clear hlt hk
      obtain ⟨S1, HT, hFl, hSl, hSu⟩ := first_take k (by omega)
      have HT' := Lib.hid HT
      clear HT
      have hl4 : (fillS k k).length ≤ 4096 := by rw [fillS_length k k (by omega)]; omega
      have hh := Lib.hid (show (fillS k k).length ≠ 0 → 0 < (fillS k k).length by omega)
      have hpn := Lib.hid (fillS_pins k k (Nat.le_refl _))
      have HFl := Lib.hid hFl
      have HSl := Lib.hid hSl
      have HSu := Lib.hid hSu
      clear hFl hSl hSu
      have hmk := HM.out
      go_wp2_with (go_at_call 8; refine (take_any _ b bl _ 0 hCr hl4 hh.out hpn.out).mono ?_; rw [HT'.out]; rintro e w2 ⟨rfl, hC2, hF2⟩; simp only at hC2)
      clear hmk
      have hB3 : BoolsAt (w2.alloc (.cells (madeCells #[.bool false] k) 4)) w2.heap.size (List.replicate k false) := by
        unfold BoolsAt; rw [block_new, made_one]; simp
      have hC3 : ClockIs (w2.alloc (.cells (madeCells #[.bool false] k) 4)) b bl S1 1 := hC2.frm ((Frm.refl [] w2).alloc _) (by simp) (by simp)
      have hF3 : Frm [] w (w2.alloc (.cells (madeCells #[.bool false] k) 4)) := (hFr.trans hF2 E.out).alloc _
      have hbw : w.heap.size ≤ w2.heap.size := (hFr.trans hF2 E.out).size
      have hnb : w2.heap.size ≠ b ∧ w2.heap.size ≠ bl := by have := hC2.size; omega
      revert hB3 hC3 hF3 hbw hnb
      generalize w2.alloc (.cells (madeCells #[.bool false] k) 4) = w3
      generalize w2.heap.size = bw
      intro hB3 hC3 hF3 hbw hnb
      clear hC2 hF2 hCr hFr HT' HM hC
      have hZ3 := hZ.cell hF3 (by simp) (Nat.le_refl _)
      have E2 := Lib.hid (show ∀ x ∈ [b, bl, bw], x ∈ ([] : List Nat) ∨ w.heap.size ≤ x by have := E.out; simp at this ⊢; omega)
      go_loopw [10, 11] (fun m i wr => ∃ (j M : Nat) (S : List Slot) (W : List Bool), i = .int .i64 j ∧ m = .int .i64 M ∧ j ≤ Z.length ∧ M ≤ k ∧ Hid (S.length = k) ∧ Hid (W.length = k) ∧ Hid (Full S) ∧ Hid (Same S W 1) ∧ Hid (M + fresh W 1 = k - 1) ∧ ClockIs wr b bl S 1 ∧ BoolsAt wr bw W ∧ Frm [] w wr ∧ BytesAt wr w.heap.size (.slice va Z.length vc) Z) (fun _ i _ => Z.length - (intOf i).toNat)
      case atStart => exact ⟨0, 0, S1, List.replicate k false, rfl, rfl, Nat.zero_le _, Nat.zero_le _, HSl.out, by simp [Hid], HFl.out, fun t h1 h2 => by rw [HSu.out t h1 (by have := HSl.out; omega)]; have := HSl.out; simp [show t < k by omega], by show 0 + fresh (List.replicate k false) 1 = k - 1; rw [fresh_new k (by omega)]; omega, hC3, hB3, hF3, hZ3⟩
      case round =>
        obtain ⟨j, M, S, W, rfl, rfl, hj, hMk, hS, hW, hFl, hSa, hFr, hC4, hB4, hF4, hZ4⟩ := hrel
        by_cases hjl : j < Z.length
        · obtain ⟨ab, ao, ac, hv, hab, c0, hz⟩ := hZ4.cells j hjl
          obtain ⟨rfl, rfl⟩ : va = some ⟨ab, ao, none⟩ ∧ vc = ac := by simpa using hv
          clear hv
          generalize Z.getD j 0 = z at c0 hz
          have hql : z % k < k := Nat.mod_lt _ (by omega)
          have hqe : (z : Int) % (k : Int) = ((z % k : Nat) : Int) := by simp
          revert hql hqe
          generalize z % k = q
          intro hql hqe
          have hqS : q < S.length := by have := hS.out; omega
          have hqW : q < W.length := by have := hW.out; omega
          have hB4' := hB4.get q hqW
          have hWS := Lib.hid (show W.length = S.length by have := hS.out; have := hW.out; omega)
          have HSa := Lib.hid (same_use hFl.out hSa.out hWS.out q hqS)
          have HFl2 := Lib.hid (hFl.out.use q)
          have HSl2 := Lib.hid (show (Ck.upd S q Ck.useF).length = k by rw [Ck.upd_length]; exact hS.out)
          have HWl := Lib.hid (show (W.set q true).length = k by rw [List.length_set]; exact hW.out)
          have hnb5 : bw ∉ [bl] := by simp; exact hnb.2
          cases hx : W.getD q true with
          | true =>
            have HX := Lib.hid hx
            have hfr := Lib.hid (show M + fresh (W.set q true) 1 = k - 1 by
              have h0 := hFr.out
              by_cases hq0 : q = 0
              · subst hq0; rw [fresh_set_lt _ _ _ (by omega)]; exact h0
              · have := fresh_set_ge W (W.length - 1) 1 q (by omega) (by omega) hqW
                rw [hx] at this; simp at this; omega)
            clear hx
            go_wp2_with (go_at_call 9; refine (use_any _ b bl S 1 q hC4).mono ?_; rintro e w5 ⟨rfl, hC5, hF5⟩; have hB5 := hB4.frm hF5 hnb5; have hB5' := hB5.get q hqW; rw [HX.out] at hB5')
            go_roundw
            case rel => exact ⟨j + 1, M, _, W.set q true, by go_num, rfl, by omega, by omega, HSl2.out, HWl.out, HFl2.out, HSa.out, hfr.out, hC5.frm ((Frm.refl [bw] w5).setCell (by simp) _) (by simp; omega) (by simp; omega), hB5.store q true, ((hF4.trans hF5 (by have := E.out; simp at this ⊢; omega)).setCell (p := ⟨bw, q, none⟩) (.inr hbw) _), hZ4.cell (F := [bl, bw]) ((hF5.mono (by simp)).setCell (by simp) _) (by have := E2.out; simp at this ⊢; omega) hF4.size⟩
            case measure => simp [intOf]; omega
          | false =>
            have HX := Lib.hid hx
            by_cases hq0 : q = 0
            · have hfr := Lib.hid (show M + fresh (W.set q true) 1 = k - 1 by rw [hq0, fresh_set_lt _ _ _ (by omega)]; exact hFr.out)
              subst hq0
              have hqe0 : (z : Int) % (k : Int) = 0 := hqe
              clear hx hqe
              go_wp2_with (go_at_call 9; refine (use_any _ b bl S 1 0 hC4).mono ?_; rintro e w5 ⟨rfl, hC5, hF5⟩; have hB5 := hB4.frm hF5 hnb5; have hB5' := hB5.get 0 hqW; rw [HX.out] at hB5')
              go_roundw
              case rel => exact ⟨j + 1, M, _, W.set 0 true, by go_num, rfl, by omega, by omega, HSl2.out, HWl.out, HFl2.out, HSa.out, hfr.out, hC5.frm ((Frm.refl [bw] w5).setCell (by simp) _) (by simp; omega) (by simp; omega), hB5.store 0 true, ((hF4.trans hF5 (by have := E.out; simp at this ⊢; omega)).setCell (p := ⟨bw, 0, none⟩) (.inr hbw) _), hZ4.cell (F := [bl, bw]) ((hF5.mono (by simp)).setCell (by simp) _) (by have := E2.out; simp at this ⊢; omega) hF4.size⟩
              case measure => simp [intOf]; omega
            · have hfr := Lib.hid (show M + 1 + fresh (W.set q true) 1 = k - 1 by
                have h0 := hFr.out
                have := fresh_set_ge W (W.length - 1) 1 q (by omega) (by omega) hqW
                rw [hx] at this; simp at this; omega)
              have hMk1 : M + 1 ≤ k := by have := hfr.out; omega
              have q0 : ((q : Int) == 0) = false := by simpa using hq0
              have q0' : ((q : Int) != 0) = true := by simpa using hq0
              clear hx
              go_wp2_with (go_at_call 9; refine (use_any _ b bl S 1 q hC4).mono ?_; rintro e w5 ⟨rfl, hC5, hF5⟩; have hB5 := hB4.frm hF5 hnb5; have hB5' := hB5.get q hqW; rw [HX.out] at hB5')
              go_roundw
              case rel => exact ⟨j + 1, M + 1, _, W.set q true, by go_num, by go_num, by omega, by omega, HSl2.out, HWl.out, HFl2.out, HSa.out, hfr.out, hC5.frm ((Frm.refl [bw] w5).setCell (by simp) _) (by simp; omega) (by simp; omega), hB5.store q true, ((hF4.trans hF5 (by have := E.out; simp at this ⊢; omega)).setCell (p := ⟨bw, q, none⟩) (.inr hbw) _), hZ4.cell (F := [bl, bw]) ((hF5.mono (by simp)).setCell (by simp) _) (by have := E2.out; simp at this ⊢; omega) hF4.size⟩
              case measure => simp [intOf]; omega
        · have h0k : 0 < W.length := by have := hW.out; omega
          have hBw := hB4.get 0 h0k
          have hB5 := hB4.store 0 true
          have hC5 := hC4.frm ((Frm.refl [bw] wr).setCell (p := ⟨bw, 0, none⟩) (by simp) (.bool true)) (by simp; omega) (by simp; omega)
          have hF5 := hF4.setCell (p := ⟨bw, 0, none⟩) (.inr hbw) (.bool true)
          go_wp2
          revert hB5 hC5 hF5
          generalize wr.setCell ⟨bw, 0, none⟩ (.bool true) = wt
          intro hB5 hC5 hF5
          have hW5 := Lib.hid (show (W.set 0 true).length = k by rw [List.length_set]; exact hW.out)
          have hfr5 := Lib.hid (show M + fresh (W.set 0 true) 1 = k - 1 by rw [fresh_set_lt _ _ _ (by omega)]; exact hFr.out)
          have hsa5 := Lib.hid (show Same S (W.set 0 true) 1 by
            intro t h1 h2
            rw [getD_set _ _ _ _ h0k, if_neg (by omega)]; exact hSa.out t h1 h2)
          revert hB5 hW5 hfr5 hsa5
          generalize W.set 0 true = W5
          intro hB5 hW5 hfr5 hsa5
          clear hBw h0k
          go_loopw [13] (fun i wr => ∃ (j h : Nat) (S : List Slot) (W : List Bool), i = .int .i64 j ∧ 1 ≤ h ∧ h ≤ k ∧ Hid (S.length = k) ∧ Hid (W.length = k) ∧ Hid (Full S) ∧ Hid (Same S W h) ∧ M + j ≤ k - 1 ∧ Hid (M + j + fresh W h = k - 1) ∧ ClockIs wr b bl S (h % k) ∧ BoolsAt wr bw W ∧ Frm [] w wr) (fun i _ => k - (intOf i).toNat)
          case atStart => exact ⟨0, 1, S, W5, rfl, by omega, by omega, hS.out, hW5.out, hFl.out, hsa5.out, by have := hfr5.out; omega, by have := hfr5.out; show M + 0 + fresh W5 1 = k - 1; omega, by rw [Nat.mod_eq_of_lt (by omega)]; exact hC5, hB5, hF5⟩
          case round =>
            clear hC4 hB4 hF4 hFr hSa hC5 hB5 hF5 hW5 hfr5 hsa5
            rename_i Sold Wold
            obtain ⟨j, h, S, W, rfl, h1, hhk, hS6, hW6, hFl6, hSa6, hle, hFr6, hC6, hB6, hF6⟩ := hrel
            by_cases hjl : M + j < k - 1
            · have hpos : 0 < fresh W h := by have := hFr6.out; omega
              obtain ⟨g, hg1, hg2, hg3, hg4, hg5⟩ := fresh_first W (W.length - h) h (by have := hW6.out; omega) hpos
              have hgS : g < S.length := by have := hS6.out; have := hW6.out; omega
              have hgk : g < k := by have := hW6.out; omega
              obtain ⟨S', hT, hFl', hSl', hSs⟩ := take_scan S h g hFl6.out hg1 hgS (fun t h1 h2 => by rw [hSa6.out t h1 (by omega)]; exact hg4 t h1 h2) (by rw [hSa6.out g hg1 hgS]; exact hg3)
              rw [hS6.out] at hT
              have hhm : h % k = h := Nat.mod_eq_of_lt (by omega)
              rw [hhm] at hC6
              have HT := Lib.hid hT
              have HG := Lib.hid hg3
              have HS' := Lib.hid (show S'.length = k by rw [hSl']; exact hS6.out)
              have HW' := Lib.hid (show (W.set g true).length = k by rw [List.length_set]; exact hW6.out)
              have HF' := Lib.hid hFl'
              have HSa' := Lib.hid (show Same S' (W.set g true) (g + 1) by
                intro t h2 h3
                rw [getD_set _ _ _ _ hg2, if_neg (by omega), hSs t (by omega) (by omega)]
                exact hSa6.out t (by omega) (by omega))
              have HFr' := Lib.hid (show M + (j + 1) + fresh (W.set g true) (g + 1) = k - 1 by rw [fresh_set_lt _ _ _ (by omega)]; have := hFr6.out; omega)
              have hl4 : S.length ≤ 4096 := by have := hS6.out; omega
              have hh4 := Lib.hid (show S.length ≠ 0 → h < S.length from fun _ => by omega)
              have hp4 := Lib.hid hFl6.out.pins
              have hnb6 : bw ∉ [b, bl] := by simp; exact hnb
              have hgW : g < W.length := hg2
              clear hg4 hg5 hSs hT hFl' hSl' hg3 hhm hpos
              go_wp2_with (go_at_call 8; refine (take_any _ b bl S h hC6 hl4 hh4.out hp4.out).mono ?_; rw [HT.out]; rintro e w7 ⟨rfl, hC7, hF7⟩; simp only at hC7; have hB7 := hB6.frm hF7 hnb6; have hB7' := hB7.get g hgW; rw [HG.out] at hB7')
              go_roundw
              case rel => exact ⟨j + 1, g + 1, S', W.set g true, by go_num, by omega, by omega, HS'.out, HW'.out, HF'.out, HSa'.out, by omega, HFr'.out, hC7.frm ((Frm.refl [bw] w7).setCell (p := ⟨bw, g, none⟩) (by simp) _) (by simp; omega) (by simp; omega), hB7.store g true, (hF6.trans hF7 E.out).setCell (p := ⟨bw, g, none⟩) (.inr hbw) _⟩
              case measure => simp [intOf]; omega
            · go_wp2_with (go_at_call 6; refine (live_any _).mono ?_; rintro e w9 ⟨rfl, hf9⟩)
              go_ret
              exact ⟨rfl, hF6.trans' hf9⟩
end Go.Proofs.Ytcncfloigaiojaa
