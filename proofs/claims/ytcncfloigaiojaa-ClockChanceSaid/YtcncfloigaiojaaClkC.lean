/- The second chance, in plain Lean. -/
import Derived.Test.YtcncfloigaiojaaClkP
namespace Go.Proofs.Ytcncfloigaiojaa

/-- all taken, none pinned -/
def Full (S : List Slot) : Prop := ∀ t, t < S.length → (Ck.sl S t).taken = true ∧ (Ck.sl S t).pins = 0
theorem Full.modify {S : List Slot} (h : Full S) (i : Nat) (f : Slot → Slot) (hf : ∀ s : Slot, s.taken = true → s.pins = 0 → (f s).taken = true ∧ (f s).pins = 0) : Full (S.modify i f) := by
  intro t ht
  have ht' : t < S.length := by simpa using ht
  rw [sl_modify _ _ _ _ ht']
  split
  · exact hf _ (h t ht').1 (h t ht').2
  · exact h t ht'
theorem Full.upd {S : List Slot} (h : Full S) (i : Int) (f : Slot → Slot) (hf : ∀ s : Slot, s.taken = true → s.pins = 0 → (f s).taken = true ∧ (f s).pins = 0) : Full (Ck.upd S i f) := by
  unfold Ck.upd; split
  · exact h.modify _ f hf
  · exact h
theorem Full.use {S : List Slot} (h : Full S) (i : Int) : Full (Ck.upd S i Ck.useF) := h.upd i _ fun s h1 h2 => by rw [Ck.useF, if_pos h1]; exact ⟨h1, h2⟩
theorem Full.set {S : List Slot} (h : Full S) (i : Int) : Full (Ck.upd S i Ck.setF) := h.upd i _ fun s h1 h2 => ⟨rfl, h2⟩
theorem Full.lazy {S : List Slot} (h : Full S) (i : Nat) : Full (S.modify i Ck.lazyF) := h.modify i _ fun s h1 h2 => ⟨h1, h2⟩
theorem Full.no_free {S : List Slot} (h : Full S) : S.findIdx? (fun s => !s.taken) = none := idx_no S fun j hj => (h j hj).1
theorem Full.any {S : List Slot} (h : Full S) (hn : 0 < S.length) : S.any (fun s => s.pins == 0) = true := by
  rw [List.any_eq_true]
  exact ⟨Ck.sl S 0, by rw [Ck.sl_get S 0 hn]; exact List.getElem_mem _, by simp [(h 0 hn).2]⟩
theorem Full.pins {S : List Slot} (h : Full S) : ∀ n, n < S.length → 0 ≤ (Ck.sl S n).pins := fun n hn => by rw [(h n hn).2]; decide

/-- the hand passes what is used, and gives the first that is not -/
theorem round_scan (d : Nat) : ∀ (fuel : Nat) (S : List Slot) (h : Nat), Full S → h + d < S.length → d < fuel → (∀ t, h ≤ t → t < h + d → (Ck.sl S t).used = true) → (Ck.sl S (h + d)).used = false →
    ∃ S', Ck.round fuel S h = some (h + d, S', (h + d + 1) % S.length) ∧ Full S' ∧ S'.length = S.length ∧ ∀ t, h + d ≤ t → t < S.length → Ck.sl S' t = Ck.sl S t := by
  induction d with
  | zero =>
    intro fuel S h hF hl hf _ hu
    obtain ⟨k, rfl⟩ : ∃ k, fuel = k + 1 := ⟨fuel - 1, by omega⟩
    refine ⟨S, ?_, hF, rfl, fun t _ _ => rfl⟩
    have := hF h (by omega)
    unfold Ck.round
    rw [if_neg (by rw [this.2]; decide), if_neg (by rw [Nat.add_zero] at hu; rw [hu]; decide)]
    rfl
  | succ d ih =>
    intro fuel S h hF hl hf hp hu
    obtain ⟨k, rfl⟩ : ∃ k, fuel = k + 1 := ⟨fuel - 1, by omega⟩
    have h0 := hF h (by omega)
    have h1 := hp h (by omega) (by omega)
    have hm : (h + 1) % S.length = h + 1 := Nat.mod_eq_of_lt (by omega)
    obtain ⟨S', hr, hF', hl', hs⟩ := ih k (S.modify h Ck.lazyF) (h + 1) (hF.lazy h) (by simp; omega) (by omega)
      (fun t h2 h3 => by rw [sl_modify _ _ _ _ (by omega), if_neg (by omega)]; exact hp t (by omega) (by omega))
      (by rw [sl_modify _ _ _ _ (by omega), if_neg (by omega)]; rw [show h + 1 + d = h + (d + 1) from by omega]; exact hu)
    refine ⟨S', ?_, hF', by simpa using hl', fun t h2 h3 => ?_⟩
    · unfold Ck.round
      rw [if_neg (by rw [h0.2]; decide), if_pos h1, hm, hr]
      rw [List.length_modify, show h + 1 + d = h + (d + 1) from by omega]
    · rw [hs t (by omega) (by simpa using h3), sl_modify _ _ _ _ h3, if_neg (by omega)]
/-- a take from a full row: the first from the hand on that is not used -/
theorem take_scan (S : List Slot) (h g : Nat) (hF : Full S) (hhg : h ≤ g) (hg : g < S.length) (hp : ∀ t, h ≤ t → t < g → (Ck.sl S t).used = true) (hu : (Ck.sl S g).used = false) :
    ∃ S', Ck.take S h = ((g : Int), true, S', (g + 1) % S.length) ∧ Full S' ∧ S'.length = S.length ∧ ∀ t, g < t → t < S.length → Ck.sl S' t = Ck.sl S t := by
  obtain ⟨S', hr, hF', hl', hs⟩ := round_scan (g - h) (2 * S.length) S h hF (by omega) (by omega) (fun t h1 h2 => hp t h1 (by omega)) (by rw [show h + (g - h) = g from by omega]; exact hu)
  rw [show h + (g - h) = g from by omega] at hr
  have := take_r S h _ hF.no_free (hF.any (by omega)) hr
  refine ⟨_, this, hF'.set _, by simpa using hl', fun t h1 h2 => ?_⟩
  simp only
  rw [Ck.upd_nat, sl_modify _ _ _ _ (by omega), if_neg (by omega)]
  exact hs t (by omega) h2

/-- the row behind i takes from nothing -/
def fillS (n i : Nat) : List Slot := List.replicate i ⟨true, true, 0⟩ ++ List.replicate (n - i) ⟨false, false, 0⟩
theorem fillS_length (n i : Nat) (h : i ≤ n) : (fillS n i).length = n := by simp [fillS]; omega
theorem fillS_get (n i t : Nat) (h : i ≤ n) (ht : t < n) : Ck.sl (fillS n i) t = if t < i then ⟨true, true, 0⟩ else ⟨false, false, 0⟩ := by
  rw [Ck.sl_get _ _ (by rw [fillS_length n i h]; exact ht)]
  unfold fillS
  rw [List.getElem_append]
  split
  · rename_i h1; rw [List.getElem_replicate, if_pos (by simpa using h1)]
  · rename_i h1; rw [List.getElem_replicate, if_neg (by simpa using h1)]
theorem ext_sl (S S' : List Slot) (hl : S.length = S'.length) (h : ∀ t, t < S.length → Ck.sl S t = Ck.sl S' t) : S = S' := by
  apply List.ext_getElem hl
  intro t h1 h2
  rw [← Ck.sl_get S t h1, ← Ck.sl_get S' t h2]; exact h t h1
theorem fill_take (n i : Nat) (h : i < n) : Ck.take (fillS n i) 0 = ((i : Int), true, fillS n (i + 1), 0) := by
  have hi : (fillS n i).findIdx? (fun s => !s.taken) = some i := by
    have hl := fillS_length n i (by omega)
    refine idx_at _ _ (by omega) ?_ ?_
    · rw [fillS_get n i i (by omega) h, if_neg (by omega)]
    · intro j hj; rw [fillS_get n i j (by omega) (by omega), if_pos hj]
  have e : Ck.upd (fillS n i) i Ck.setF = fillS n (i + 1) := by
    rw [Ck.upd_nat]
    refine ext_sl _ _ (by rw [List.length_modify, fillS_length _ _ (by omega), fillS_length _ _ (by omega)]) ?_
    intro t ht
    have ht' : t < n := by rw [List.length_modify, fillS_length _ _ (by omega)] at ht; exact ht
    rw [sl_modify _ _ _ _ (by rw [fillS_length _ _ (by omega)]; exact ht'), fillS_get n i t (by omega) ht', fillS_get n (i + 1) t (by omega) ht']
    by_cases h1 : i = t
    · subst h1; rw [if_pos rfl, if_neg (by omega), if_pos (by omega)]; rfl
    · rw [if_neg h1]
      by_cases h2 : t < i
      · rw [if_pos h2, if_pos (by omega)]
      · rw [if_neg h2, if_neg (by omega)]
  have : Ck.take (fillS n i) 0 = ((i : Int), true, Ck.upd (fillS n i) i Ck.setF, 0) := by simp [Ck.take, hi]
  rw [this, e]
theorem fill_full (n : Nat) : Full (fillS n n) := by
  intro t ht
  rw [fillS_length n n (by omega)] at ht
  rw [fillS_get n n t (by omega) ht, if_pos ht]
  exact ⟨rfl, rfl⟩
/-- the first round clears all -/
theorem round_clear (d : Nat) : ∀ (fuel : Nat) (S : List Slot) (h : Nat), Full S → 0 < S.length → h + d = S.length → d < fuel → (∀ t, h ≤ t → t < S.length → (Ck.sl S t).used = true) → (∀ t, t < h → (Ck.sl S t).used = false) →
    ∃ S', Ck.round fuel S (h % S.length) = some (0, S', 1 % S.length) ∧ Full S' ∧ S'.length = S.length ∧ ∀ t, t < S.length → (Ck.sl S' t).used = false := by
  induction d with
  | zero =>
    intro fuel S h hF hpos hl hf _ hc
    obtain ⟨k, rfl⟩ : ∃ k, fuel = k + 1 := ⟨fuel - 1, by omega⟩
    have h0 := hF 0 hpos
    have hh : h % S.length = 0 := by rw [show h = S.length from by omega]; exact Nat.mod_self _
    refine ⟨S, ?_, hF, rfl, fun t ht => hc t (by omega)⟩
    rw [hh]
    unfold Ck.round
    rw [if_neg (by rw [h0.2]; decide), if_neg (by rw [hc 0 (by omega)]; decide)]
  | succ d ih =>
    intro fuel S h hF hpos hl hf hu hc
    obtain ⟨k, rfl⟩ : ∃ k, fuel = k + 1 := ⟨fuel - 1, by omega⟩
    have h0 := hF h (by omega)
    have hh : h % S.length = h := Nat.mod_eq_of_lt (by omega)
    obtain ⟨S', hr, hF', hl', hs⟩ := ih k (S.modify h Ck.lazyF) (h + 1) (hF.lazy h) (by simpa using hpos) (by simp; omega) (by omega)
      (fun t h1 h2 => by rw [sl_modify _ _ _ _ (by simpa using h2), if_neg (by omega)]; exact hu t (by omega) (by simpa using h2))
      (fun t h1 => by
        rw [sl_modify _ _ _ _ (by omega)]
        by_cases e : h = t
        · rw [if_pos e]; rfl
        · rw [if_neg e]; exact hc t (by omega))
    refine ⟨S', ?_, hF', by simpa using hl', fun t ht => hs t (by simpa using ht)⟩
    rw [hh]
    unfold Ck.round
    rw [if_neg (by rw [h0.2]; decide), if_pos (hu h (by omega) (by omega))]
    simpa using hr
theorem first_take (n : Nat) (hn : 2 ≤ n) : ∃ S', Ck.take (fillS n n) 0 = (0, true, S', 1) ∧ Full S' ∧ S'.length = n ∧ ∀ t, 1 ≤ t → t < n → (Ck.sl S' t).used = false := by
  have hl := fillS_length n n (by omega)
  obtain ⟨S', hr, hF', hl', hs⟩ := round_clear n (2 * (fillS n n).length) (fillS n n) 0 (fill_full n) (by omega) (by omega) (by omega)
    (fun t _ h2 => by rw [hl] at h2; rw [fillS_get n n t (by omega) h2, if_pos h2]) (fun t h1 => absurd h1 (by omega))
  rw [Nat.zero_mod, hl, Nat.mod_eq_of_lt (by omega)] at hr
  rw [hl] at hl' hs
  have := take_r (fillS n n) 0 _ (fill_full n).no_free ((fill_full n).any (by omega)) (by rw [hl]; exact hr)
  refine ⟨_, this, hF'.set _, by simpa using hl', fun t h1 h2 => ?_⟩
  simp only
  rw [Ck.upd_nat, sl_modify _ _ _ _ (by omega), if_neg (by omega)]
  exact hs t h2

/-- how many behind place h were not used -/
def fresh (W : List Bool) (h : Nat) : Nat := (W.drop h).countP (fun b => !b)
theorem fresh_le (W : List Bool) (h : Nat) : fresh W h ≤ W.length - h := by
  unfold fresh; exact Nat.le_trans List.countP_le_length (by simp)
theorem fresh_cons (W : List Bool) (h : Nat) (hh : h < W.length) : fresh W h = fresh W (h + 1) + if W.getD h true = true then 0 else 1 := by
  unfold fresh
  rw [List.drop_eq_getElem_cons hh, List.countP_cons]
  have : W.getD h true = W[h] := by simp [hh]
  rw [this]
  cases W[h] <;> simp
theorem fresh_end (W : List Bool) : fresh W W.length = 0 := by simp [fresh]
theorem fresh_first (W : List Bool) (d : Nat) : ∀ h, h + d = W.length → 0 < fresh W h → ∃ g, h ≤ g ∧ g < W.length ∧ W.getD g true = false ∧ (∀ t, h ≤ t → t < g → W.getD t true = true) ∧ fresh W (g + 1) + 1 = fresh W h := by
  induction d with
  | zero => intro h e hp; rw [show h = W.length from by omega, fresh_end] at hp; omega
  | succ d ih =>
    intro h e hp
    have hc := fresh_cons W h (by omega)
    cases hw : W.getD h true with
    | false => exact ⟨h, by omega, by omega, hw, fun t h1 h2 => absurd h1 (by omega), by rw [hc, hw]; simp⟩
    | true =>
      rw [hw] at hc
      simp only [if_true, Nat.add_zero] at hc
      obtain ⟨g, h1, h2, h3, h4, h5⟩ := ih (h + 1) (by omega) (by omega)
      refine ⟨g, by omega, h2, h3, fun t h6 h7 => ?_, by omega⟩
      rcases Nat.lt_or_ge h t with h8 | h8
      · exact h4 t (by omega) h7
      · rw [show t = h from by omega]; exact hw
theorem fresh_set_lt (W : List Bool) (h k : Nat) (hk : k < h) (b : Bool) : fresh (W.set k b) h = fresh W h := by
  unfold fresh
  rw [List.drop_set, if_pos hk]
theorem getD_set (W : List Bool) (k t : Nat) (b : Bool) (hk : k < W.length) : (W.set k b).getD t true = if k = t then b else W.getD t true := by
  by_cases e : k = t
  · subst e; simp [hk]
  · simp [List.getElem?_set, e]
theorem fresh_set_ge (W : List Bool) (d : Nat) : ∀ (h k : Nat), h + d = W.length → h ≤ k → k < W.length → fresh (W.set k true) h + (if W.getD k true = true then 0 else 1) = fresh W h := by
  induction d with
  | zero => intro h k e h1 h2; omega
  | succ d ih =>
    intro h k e h1 h2
    have hc := fresh_cons W h (by omega)
    have hc' := fresh_cons (W.set k true) h (by simp; omega)
    rw [getD_set _ _ _ _ h2] at hc'
    by_cases hk : k = h
    · subst hk
      rw [if_pos rfl] at hc'
      have e2 := fresh_set_lt W (k + 1) k (by omega) true
      rw [hc, hc', e2]; simp
    · rw [if_neg hk] at hc'
      have := ih (h + 1) k (by omega) (by omega) h2
      omega
theorem sl_use (S : List Slot) (hF : Full S) (k t : Nat) (ht : t < S.length) : (Ck.sl (Ck.upd S k Ck.useF) t).used = if k = t then true else (Ck.sl S t).used := by
  rw [Ck.upd_nat, sl_modify _ _ _ _ ht]
  split
  · rw [Ck.useF, if_pos (hF t ht).1]
  · rfl
end Go.Proofs.Ytcncfloigaiojaa
