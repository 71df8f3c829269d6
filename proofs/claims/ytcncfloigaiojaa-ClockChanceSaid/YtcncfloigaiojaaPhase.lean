/- A region that draws its order, taken in the order of the text: stretches of quiet operations, and between them single ones that nothing may pass. No program. -/
import Derived.Deep.Quiet
import Derived.WalkKit
import Derived.BigQuiet
import Derived.Deep.QuietTactic
namespace Go.Proofs.Ytcncfloigaiojaa
open Go Go.RowKit
section
variable {P : Program} {ops : Array Oper} {md : Region.Mode} {C : World → Prop}

/-- In whatever order: f operations more, all quiet, and then all below m are listed. -/
def phW (P : Program) (md : Region.Mode) (ops : Array Oper) (C : World → Prop) (m : Nat) (Q : Array Bool → Act → Prop) : Nat → Array Bool → Act → Prop
  | 0, listed, a => (∀ j, j < m → listed.getD j true = true) ∧ Q listed a
  | f + 1, listed, a => Region.ready md ops listed ≠ [] ∧ ∀ i ∈ Region.ready md ops listed, qOp P ops C i (phW P md ops C m Q f (listed.setIfInBounds i true)) a

/-- which operations wait for operation i, and it itself -/
def descA (md : Region.Mode) (i : Nat) : List Oper → Nat → Array Bool → Array Bool
  | [], _, acc => acc
  | o :: l, t, acc => descA md i l (t + 1) (acc.push (t == i || o.after.any fun e => Region.binds md e && acc.getD e.on false))
/-- what may be listed where i is not: what is ahead of m and does not wait for i -/
def exL (md : Region.Mode) (ops : Array Oper) (m i : Nat) : Array Bool := ((List.range ops.size).map fun t => decide (t < m) && !(descA md i ops.toList 0 #[]).getD t false).toArray
theorem exL_getD (m i t : Nat) (d : Bool) (h : t < ops.size) : (exL md ops m i).getD t d = (decide (t < m) && !(descA md i ops.toList 0 #[]).getD t false) := by
  simp [exL, h]
/-- no operation from m on comes up while one from k to m is not listed -/
def waitsB (md : Region.Mode) (ops : Array Oper) (m k : Nat) : Bool := decide (ops.size ≤ m) || (List.range' k (m - k)).all fun i => (Region.ready md ops (exL md ops m i)).all (· < m)
/-- from m on nothing is listed; what is listed has what it waits for ahead of it -/
structure SubL (md : Region.Mode) (ops : Array Oper) (m : Nat) (listed : Array Bool) : Prop where
  size : listed.size = ops.size
  none : ∀ j, m ≤ j → j < ops.size → listed.getD j true = false
  closed : ∀ j o, ops[j]? = some o → listed.getD j true = true → ∀ e ∈ o.after, Region.binds md e = true → listed.getD e.on false = true
theorem SubL.set {m j : Nat} {listed : Array Bool} (h : SubL md ops m listed) (hj : j < m) (hr : j ∈ Region.ready md ops listed) : SubL md ops m (listed.setIfInBounds j true) := by
  refine ⟨by simpa using h.size, fun t ht hts => by rw [getD_set_ne true (by omega)]; exact h.none t ht hts, fun t o ho ht e he hb => ?_⟩
  by_cases hjt : j = t
  · subst hjt
    obtain ⟨_, o', ho', hall⟩ := mem_ready.1 hr
    rw [ho] at ho'
    cases ho'
    exact getD_set_true (hall e he hb)
  · rw [getD_set_ne true hjt] at ht
    exact getD_set_true (h.closed t o ho ht e he hb)
theorem getD_same {listed : Array Bool} {t : Nat} (h : t < listed.size) : listed.getD t true = listed.getD t false := by simp [h]
theorem desc_spec {m i : Nat} {listed : Array Bool} (hs : SubL md ops m listed) (hi : listed.getD i true = false) :
    ∀ (l : List Oper) (t : Nat) (acc : Array Bool), acc.size = t → (∀ j, l[j]? = ops[t + j]?) → (∀ s, acc.getD s false = true → listed.getD s true = false) →
      ∀ s, (descA md i l t acc).getD s false = true → listed.getD s true = false := by
  intro l
  induction l with
  | nil => intro t acc _ _ h; exact h
  | cons o l ih =>
    intro t acc hsz hl hacc
    have ho : ops[t]? = some o := by simpa using (hl 0).symm
    refine ih (t + 1) _ (by simp [hsz]) (fun j => by have := hl (j + 1); simpa [Nat.add_assoc, Nat.add_comm 1 j] using this) ?_
    intro s hs'
    rcases Nat.lt_trichotomy s acc.size with h1 | h1 | h1
    · refine hacc s ?_
      simp only [Array.getD_eq_getD_getElem?, Array.getElem?_push] at hs'
      rw [if_neg (by omega)] at hs'
      simpa [Array.getD_eq_getD_getElem?] using hs'
    · subst h1
      simp only [Array.getD_eq_getD_getElem?, Array.getElem?_push, if_true, Option.getD_some, Bool.or_eq_true, beq_iff_eq, Array.any_eq_true, Bool.and_eq_true] at hs'
      rcases hs' with h2 | ⟨x, hx, hb, he⟩
      · rw [hsz, h2]; exact hi
      · have hm : o.after[x] ∈ o.after := Array.getElem_mem hx
        have he' := hacc _ (by simpa [Array.getD_eq_getD_getElem?] using he)
        cases hl2 : listed.getD acc.size true with
        | false => rfl
        | true =>
          have h3 := hs.closed acc.size o (by rw [hsz]; exact ho) hl2 _ hm hb
          have hlt : o.after[x].on < listed.size := by
            rcases Nat.lt_or_ge o.after[x].on listed.size with h4 | h4
            · exact h4
            · simp [Array.getElem?_eq_none h4] at h3
          rw [getD_same hlt, h3] at he'
          cases he'
    · simp only [Array.getD_eq_getD_getElem?, Array.getElem?_push] at hs'
      rw [if_neg (by omega), Array.getElem?_eq_none (by omega)] at hs'
      simp at hs'

theorem waits_spec {m k i : Nat} (h : waitsB md ops m k = true) (hk : k ≤ i) (him : i < m) {listed : Array Bool} (hs : SubL md ops m listed) (hi : listed.getD i true = false) : ∀ j ∈ Region.ready md ops listed, j < m := by
  intro j hj
  rcases Nat.lt_or_ge j m with h1 | h1
  · exact h1
  obtain ⟨h0, o, ho, hall⟩ := mem_ready.1 hj
  have hjs : j < ops.size := (Array.getElem?_eq_some_iff.1 ho).1
  rcases Bool.or_eq_true _ _ |>.mp h with h | h
  · have := of_decide_eq_true h; omega
  have hmem : j ∈ Region.ready md ops (exL md ops m i) := by
    refine mem_ready.2 ⟨by rw [exL_getD _ _ _ _ hjs]; simp; omega, o, ho, fun e he hb => ?_⟩
    have h2 := hall e he hb
    have hes : e.on < listed.size := by
      rcases Nat.lt_or_ge e.on listed.size with h3 | h3
      · exact h3
      · simp [Array.getElem?_eq_none h3] at h2
    rw [exL_getD _ _ _ _ (by rw [← hs.size]; exact hes)]
    simp only [Bool.and_eq_true, decide_eq_true_eq, Bool.not_eq_true']
    constructor
    · rcases Nat.lt_or_ge e.on m with h3 | h3
      · exact h3
      · have := hs.none e.on h3 (by rw [← hs.size]; exact hes)
        rw [getD_same hes, h2] at this; cases this
    · cases hd : (descA md i ops.toList 0 #[]).getD e.on false with
      | false => rfl
      | true =>
        have := desc_spec hs hi ops.toList 0 #[] rfl (by simp) (by simp) e.on hd
        rw [getD_same hes, h2] at this; cases this
  have := List.all_eq_true.1 (List.all_eq_true.1 h i (by rw [List.mem_range'_1]; omega)) j hmem
  simpa using this

theorem ph_first {m k : Nat} {Q : Array Bool → Act → Prop} {i : Nat} {oi : Oper} {v : Value} (hw : waitsB md ops m k = true) (hki : k ≤ i) (him : i < m) (hi : ops[i]? = some oi) (hsel : ∀ (j : Nat) (o : Oper) cs b, ops[j]? = some o → o.op ≠ .select cs b) :
    ∀ (f : Nat) (listed : Array Bool) (a : Act), SubL md ops m listed →
      (∀ j oj, ops[j]? = some oj → j ≠ i → listed.getD j true = false → (∀ e ∈ oj.after, Region.binds md e = true → e.on ≠ i) → oi.apart ops oj = true) →
      i ∈ Region.ready md ops listed → YieldsIn P ops C oi v a →
      phW P md ops C m Q f (listed.setIfInBounds i true) (a.put oi.dst v) → phW P md ops C m Q (f + 1) listed a := by
  intro f
  induction f with
  | zero =>
    intro listed a hs _ hr hy H
    refine ⟨fun h => (by rw [h] at hr; cases hr), fun j hj => ?_⟩
    by_cases hji : j = i
    · subst hji; exact hy.qOp hi H
    · have h1 := waits_spec hw hki him hs (mem_ready.1 hr).1 j hj
      have h2 := H.1 j h1
      rw [getD_set_ne true (Ne.symm hji), (mem_ready.1 hj).1] at h2
      cases h2
  | succ f ih =>
    intro listed a hs hfree hr hy H
    refine ⟨fun h => (by rw [h] at hr; cases hr), fun j hj => ?_⟩
    by_cases hji : j = i
    · subst hji; exact hy.qOp hi H
    · have hjm := waits_spec hw hki him hs (mem_ready.1 hr).1 j hj
      have h1 := H.2 j (ready_mono hj hji)
      obtain ⟨hjun, oj, hoj, hall⟩ := mem_ready.1 hj
      have hnot : ∀ e ∈ oj.after, Region.binds md e = true → e.on ≠ i := fun e he hb heq => by
        have h1 := hall e he hb
        have h0 := (mem_ready.1 hr).1
        rw [heq] at h1
        rcases Nat.lt_or_ge i listed.size with h' | h'
        · simp [h'] at h0 h1; rw [h0] at h1; cases h1
        · simp [Array.getElem?_eq_none h'] at h1
      have h2 := qOp_put hoj (hfree j oj hoj hji hjun hnot) (fun cs b => hsel i oi cs b hi) (fun cs b => hsel j oj cs b hoj) hy h1
      have hfree' : ∀ k ok, ops[k]? = some ok → k ≠ i → (listed.setIfInBounds j true).getD k true = false →
          (∀ e ∈ ok.after, Region.binds md e = true → e.on ≠ i) → oi.apart ops ok = true := fun k ok hk hki hun hno => by
        refine hfree k ok hk hki ?_ hno
        by_cases hjk : j = k
        · subst hjk; exact hjun
        · rw [getD_set_ne true hjk] at hun; exact hun
      have hs' := hs.set hjm hj
      refine qOp_mono (fun a' h3 => ih (listed.setIfInBounds j true) a' hs' hfree' (ready_mono hr (Ne.symm hji)) h3.1 ?_) h2
      rw [Array.setIfInBounds_comm _ _ hji]
      exact h3.2

/-- the list behind n operations from k on -/
def segL : Nat → Nat → Array Bool → Array Bool
  | 0, _, listed => listed
  | n + 1, k, listed => segL n (k + 1) (listed.setIfInBounds k true)
def segB (md : Region.Mode) (ops : Array Oper) (m : Nat) : Nat → Nat → Array Bool → Bool
  | 0, _, listed => (List.range m).all fun j => listed.getD j true
  | n + 1, k, listed => (Region.ready md ops listed).contains k && Region.free md ops listed k && decide (k < m) && segB md ops m n (k + 1) (listed.setIfInBounds k true)
def subB (md : Region.Mode) (ops : Array Oper) (m : Nat) (listed : Array Bool) : Bool := listed.size == ops.size && ((List.range ops.size).all fun j => decide (j < m) || !listed.getD j true) &&
  (List.range ops.size).all fun j => !listed.getD j true || ((ops[j]?).map fun o => o.after.all fun e => !Region.binds md e || listed.getD e.on false).getD true
theorem subB_spec {m : Nat} {listed : Array Bool} (h : subB md ops m listed = true) : SubL md ops m listed := by
  simp only [subB, Bool.and_eq_true, beq_iff_eq, List.all_eq_true, List.mem_range, Bool.or_eq_true, decide_eq_true_eq, Bool.not_eq_true'] at h
  refine ⟨h.1.1, fun j h1 h2 => (h.1.2 j h2).resolve_left (by omega), fun j o ho hj e he hb => ?_⟩
  have hjs : j < ops.size := (Array.getElem?_eq_some_iff.1 ho).1
  have := (h.2 j hjs).resolve_left (by rw [hj]; simp)
  rw [ho] at this
  simp only [Option.map_some, Option.getD_some, Array.all_eq_true_iff_forall_mem] at this
  have := this e he
  simpa [hb] using this

theorem ph_lex {m k0 : Nat} (hs : Region.noSelect ops = true) (hw : waitsB md ops m k0 = true) {Qa : Act → Prop} : ∀ (l : List Oper) (k : Nat) (listed : Array Bool) (a : Act), k0 ≤ k → SubL md ops m listed → (∀ j, j < l.length → l[j]? = ops[k + j]?) →
    segB md ops m l.length k listed = true → wpQuiet P ops C Qa l a → phW P md ops C m (fun li a' => li = segL l.length k listed ∧ Qa a') l.length listed a
  | [], k, listed, a, _, _, _, hB, h => by
    simp only [List.length_nil, segB, List.all_eq_true, List.mem_range] at hB
    exact ⟨hB, rfl, h⟩
  | o :: l, k, listed, a, hk, hsub, hl, hB, h => by
    have h0 : ops[k]? = some o := by simpa using (hl 0 (by simp)).symm
    simp only [List.length_cons, segB, Bool.and_eq_true, decide_eq_true_eq] at hB
    obtain ⟨⟨⟨hr, hf⟩, hkm⟩, hB'⟩ := hB
    have hst : qOp P ops C k (wpQuiet P ops C Qa l) a := by unfold qOp; simp only [h0]; exact h
    obtain ⟨v, hy, hK⟩ := yieldsIn_of_qOp h0 hst
    have hs' := hsub.set hkm (by simpa using hr)
    exact ph_first hw hk hkm h0 (Region.noSelect_spec hs) l.length listed a hsub (Region.free_spec h0 hf) (by simpa using hr) hy
      (ph_lex hs hw l (k + 1) _ _ (by omega) hs' (fun j hj => by have := hl (j + 1) (by simpa using hj); simpa [Nat.add_assoc, Nat.add_comm 1 j] using this) hB' hK)

theorem wpAny_of_ph {m fuel : Nat} {Q' : Exit → Act → World → Prop} : ∀ (f : Nat) (listed : Array Bool) (a : Act) (w : World), C w →
    phW P md ops C m (fun li a' => ∀ w', C w' → wpAny P md ops Q' fuel li a' w') f listed a → wpAny P md ops Q' (fuel + f) listed a w
  | 0, _, _, _, hw, h => h.2 _ hw
  | f + 1, _, _, _, hw, h => ⟨fun h0 => absurd h0 h.1, fun i hi => wpOp_of_qOp hw (fun a' w' hw' => wpAny_of_ph f _ a' w' hw') (h.2 i hi)⟩
theorem ph_mono {m : Nat} {Q Q' : Array Bool → Act → Prop} (h : ∀ l a, Q l a → Q' l a) : ∀ (f : Nat) (listed : Array Bool) (a : Act), phW P md ops C m Q f listed a → phW P md ops C m Q' f listed a
  | 0, _, _, hh => ⟨hh.1, h _ _ hh.2⟩
  | f + 1, _, _, hh => ⟨hh.1, fun i hi => qOp_mono (fun a' => ph_mono h f _ a') (hh.2 i hi)⟩

/-- w after some draws -/
def Dr (w : World) : World → Prop := fun w' => ∃ n, w' = w.drewN n

/-- the walk in the text's order: stretches of quiet operations, each but the last with one behind it that may do what it likes -/
def wpPlan (P : Program) (ops : Array Oper) (Q' : Exit → Act → World → Prop) : List Nat → List Oper → Act → World → Prop
  | [], l, a, w => l = [] ∧ Q' .normal a w
  | n :: ns, l, a, w => wpQuiet P ops (fun w' => ∃ n, w' = w.drewN n) (fun a' => ∀ w', (∃ n, w' = w.drewN n) → (match l.drop n with
      | [] => Q' .normal a' w'
      | o :: rest => wpList P ops (Exit.then (fun a'' w'' => wpPlan P ops Q' ns rest a'' w'') Q') [o] a' w')) (l.take n) a
def planB (md : Region.Mode) (ops : Array Oper) : List Nat → Nat → Array Bool → Bool
  | [], k, listed => k == ops.size && (Region.ready md ops listed).isEmpty
  | n :: ns, k, listed => subB md ops (k + n) listed && segB md ops (k + n) n k listed && waitsB md ops (k + n) k && decide (k + n ≤ ops.size) &&
      (if k + n == ops.size then (Region.ready md ops (segL n k listed)).isEmpty else Region.ready md ops (segL n k listed) == [k + n] && planB md ops ns (k + n + 1) ((segL n k listed).setIfInBounds (k + n) true))

theorem wp_then {o : Oper} {a : Act} {w : World} {K K' : Act → World → Prop} {Q' : Exit → Act → World → Prop} (h : o.wp P a w K (Exit.then K' Q')) : o.wp P a w K Q' := by
  unfold Oper.wp at *
  generalize (execOp a.eval o).run P w = r at *
  cases r with
  | ok n w' =>
    cases n <;> simp only [Oper.upon] at h ⊢ <;>
      first
        | exact h
        | exact Calls.mono h (fun e w'' he => by cases e <;> exact he)
  | halt x w' => cases x <;> simp only [Oper.upon] at h ⊢ <;> exact h
theorem wpOp_of_list {o : Oper} {a : Act} {w : World} {K : Act → World → Prop} {Q' : Exit → Act → World → Prop} {m : Nat} (ho : ops[m]? = some o) (h : wpList P ops (Exit.then K Q') [o] a w) : wpOp P ops Q' m K a w := by
  unfold wpOp
  simp only [ho]
  unfold wpList at h
  split
  · rename_i hw
    rw [if_pos hw] at h
    rcases h with h | ⟨h1, h2⟩
    · exact .inl (Oper.wp_mono (fun _ _ q => q) (wp_then h))
    · exact .inr ⟨h1, h2⟩
  · rename_i hw
    rw [if_neg hw] at h
    exact h

theorem wpAny_plan {Q' : Exit → Act → World → Prop} (hsel : Region.noSelect ops = true) : ∀ (ns : List Nat) (l : List Oper) (k : Nat) (listed : Array Bool) (a : Act) (w : World), (∀ j, l[j]? = ops[k + j]?) → k + l.length = ops.size →
    planB md ops ns k listed = true → wpPlan P ops Q' ns l a w → wpAny P md ops Q' l.length listed a w
  | [], l, k, listed, a, w, _, _, hB, h => by
    simp only [planB, Bool.and_eq_true, List.isEmpty_iff] at hB
    obtain ⟨h1, h2⟩ := h
    subst h1
    exact ⟨hB.2, h2⟩
  | n :: ns, l, k, listed, a, w, hl, hlen, hB, h => by
    simp only [planB, Bool.and_eq_true, decide_eq_true_eq] at hB
    obtain ⟨⟨⟨⟨hsub, hseg⟩, hwait⟩, hle⟩, hrest⟩ := hB
    have hn : (l.take n).length = n := by simp; omega
    have hph := ph_lex (P := P) (C := fun w' => ∃ n, w' = w.drewN n) hsel hwait (l.take n) k listed a (Nat.le_refl _) (subB_spec hsub)
      (fun j hj => by rw [hn] at hj; rw [List.getElem?_take, if_pos hj]; exact hl j) (by rw [hn]; exact hseg) h
    rw [hn] at hph
    have hll : l.length = (l.length - n) + n := by omega
    rw [hll]
    refine wpAny_of_ph (C := fun w' => ∃ n, w' = w.drewN n) n listed a w ⟨0, rfl⟩ (ph_mono ?_ n listed a hph)
    rintro li a' ⟨rfl, hq⟩ w' hw'
    have hq' := hq w' hw'
    clear hq hph
    cases hd : l.drop n with
    | nil =>
      have hz : l.length - n = 0 := by have := congrArg List.length hd; simpa using this
      have he : k + n = ops.size := by omega
      rw [if_pos (by simpa using he)] at hrest
      rw [hd] at hq'
      rw [hz]
      exact ⟨by simpa using hrest, hq'⟩
    | cons o rest =>
      have hz : l.length - n = rest.length + 1 := by have := congrArg List.length hd; simpa using this
      have hne : ¬ (k + n == ops.size) = true := by simp; omega
      rw [if_neg hne, Bool.and_eq_true] at hrest
      rw [hd] at hq'
      rw [hz]
      have hr : Region.ready md ops (segL n k listed) = [k + n] := by simpa using hrest.1
      have hget : ∀ j, (o :: rest)[j]? = ops[k + n + j]? := fun j => by
        rw [← hd, List.getElem?_drop, hl, Nat.add_assoc]
      have ho : ops[k + n]? = some o := by simpa using (hget 0).symm
      refine ⟨fun h0 => absurd h0 (by rw [hr]; simp), fun i hi => ?_⟩
      rw [hr, List.mem_singleton] at hi
      subst hi
      refine wpOp_mono (fun a'' w'' hp => ?_) (wpOp_of_list ho hq')
      exact wpAny_plan hsel ns rest (k + n + 1) _ a'' w'' (fun j => by have := hget (j + 1); simpa [Nat.add_assoc, Nat.add_comm 1 j] using this) (by omega) hrest.2 hp

/-- A REGION THAT DRAWS, BY A PLAN. -/
theorem wp_region_plan {id : Nat} {Q' : Exit → Act → World → Prop} {a : Act} {w : World} {l : List Oper} (ns : List Nat) (hm : P.follows .mixedOrders = true) (hB : (Region.noSelect l.toArray && planB .any l.toArray ns 0 (Array.replicate l.toArray.size false)) = true)
    (h : wpPlan P l.toArray Q' ns l a w.drew) : (Code.region id l.toArray true).wp P Q' a w := by
  rw [Bool.and_eq_true] at hB
  refine wp_region_any hm ?_
  have := wpAny_plan (P := P) (md := .any) (Q' := Q') hB.1 ns l 0 _ a w.drew (by simp) (by simp) hB.2 h
  simpa using this
end
/-- a call that leaves the world alone, in a quiet stretch -/
theorem quiet_left {P : Program} {f : FuncId} {args : Array Value} {w : World} {n : Nat} {v : Value}
    (h : Calls P f args (w.drewN n) fun e w' => e = .returned v ∧ w.drewN n = w') : Calls P f args (w.drewN n) fun e w'' => e = .returned v ∧ ∃ m, w'' = w.drewN m :=
  h.mono fun _ _ ⟨he, hm⟩ => ⟨he, n, hm.symm⟩
end Go.Proofs.Ytcncfloigaiojaa
