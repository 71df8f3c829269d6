/- firkinlaw27.ClockDoes returns true for every input: of all that is done to a clock each act is answered as the document's clock answers it. No condition. -/
import Derived.Test.YtcncfloigaiojaaRows
import Derived.Test.YtcncfloigaiojaaClkD
import Derived.Test.YtcncfloigaiojaaOpenS
import Derived.WalkKit
import Derived.ProofKit
import Derived.OpenShut
import Derived.ShutString
import Derived.ChangeOld
import Derived.Below
namespace Go.Proofs.Ytcncfloigaiojaa.clockDoes
open Go.ChangeShapes Go.WideShapes Go.ChangeAt Go.RowKit
open Go.ChangeMaps (open_string shut_string)

theorem own : ownKnob Try.prog.godebug = none := by kernel_rfl
theorem laidOut : laidOutB Try.prog = true := by kernel_rfl

theorem acts_open {H : Type} {enc : TypeId × Value → H} {W : World} {fuel : Nat} {a : Option Addr} {len cap : Nat} {x : DataW H × List MemPlace}
    (h : DataW.trod enc Try.prog W 0 (fun _ => true) true fuel 31 [.slice a len cap] = some x) : ∃ L, ActsAt W W.heap.size (.slice a len cap) L := by
  rcases open_slice_fields Try.underlying31 Try.underlying33 (by kernel_rfl) (by kernel_rfl) h with ⟨hcs, _⟩ | ⟨ad, l, c, m, D, Pl, hcs, _, hl, _, hm, _, hi⟩
  · simp only [List.cons.injEq, Value.slice.injEq, and_true] at hcs
    obtain ⟨rfl, rfl, rfl⟩ := hcs
    exact ⟨[], ⟨none, 0, rfl⟩, fun k hk => absurd hk (by simp)⟩
  · simp only [List.cons.injEq, Value.slice.injEq, and_true] at hcs
    obtain ⟨rfl, rfl, rfl⟩ := hcs
    have hm' : len ≤ m := by rw [hm]; split <;> omega
    obtain ⟨f, one⟩ : ∃ f : Nat → Int × Int, ∀ i, i < m → W.cell? (ad.add (i * 2)) = some (.int .i64 (f i).1) ∧ W.cell? (ad.add (i * 2 + 1)) = some (.int .i64 (f i).2) := by
      refine pick (β := Int × Int) (p := fun i t => W.cell? (ad.add (i * 2)) = some (.int .i64 t.1) ∧ W.cell? (ad.add (i * 2 + 1)) = some (.int .i64 t.2)) fun i him => ?_
      obtain ⟨ys, n, _, _, _, hf⟩ := hi i him
      obtain ⟨v0, y0, hc0, _, ht0⟩ := hf 0 _ rfl
      obtain ⟨v1, y1, hc1, _, ht1⟩ := hf 1 _ rfl
      obtain ⟨d, e0, _, _⟩ := DataW.trod_int Try.underlying3 ht0
      obtain ⟨k, e1, _, _⟩ := DataW.trod_int Try.underlying3 ht1
      simp only [List.cons.injEq, and_true] at e0 e1
      subst e0 e1
      exact ⟨(d, k), hc0, hc1⟩
    refine ⟨(List.range len).map f, ⟨some ad, cap, by simp⟩, fun k hk => ?_⟩
    have hk' : k < len := by simpa using hk
    have hf := one k (by omega)
    have hg : ((List.range len).map f).getD k (0, 0) = f k := by simp [hk']
    obtain ⟨b, o, sp⟩ := ad
    have hsp : sp = none := by
      obtain ⟨h0, _⟩ := one 0 (by omega)
      cases sp with
      | none => rfl
      | some s =>
        simp only [Nat.zero_mul, Addr.add, if_true, World.cell?] at h0
        split at h0 <;> simp at h0
    subst hsp
    rw [addr_add, addr_add] at hf
    refine ⟨b, o, cap, by simp, ?_, ?_, ?_⟩
    · have := World.block_lt_of_cell? _ _ hf.1; exact this
    · rw [hg]; exact hf.1
    · rw [hg, Nat.add_assoc]; exact hf.2

set_option maxRecDepth 100000 in
theorem lifted (os : Os) (started : os.Started) (H : Type) (enc : TypeId × Value → H) :
    ReturnsInHanded {} Try.checked os 5 .any (Rows.clockDoesSpec.pre6 enc Try.prog Try.f5 Rows.clockDoesRow.domain false) (Rows.clockDoesSpec.post enc Try.prog Try.f5 false true false false) := by
  refine returnsInHanded_of_change (C := Try.checked) own started (by kernel_rfl) Try.func5
    (ChangeSpec.witness6 (enc := enc) (C := Try.checked) false ⟨#[], #[.int .i64 0, .slice none 0 0], []⟩ 8 (by kernel_rfl) (by kernel_rfl) (by kernel_rfl) (by kernel_rfl)) ?_
  intro W base args ds gs before hval0 hW hcnd _
  have hval : ∀ (j : Nat) t v, Try.f5.params[j]? = some t → args[j]? = some v → Value.okWide Try.prog W .any base t v := hval0
  have hW' := hW
  obtain ⟨p, q, hA0, hV, rfl, hfz, hnd⟩ := hW
  have hA : DataW.TrodAll enc Try.prog W 0 (fun _ => true) true Try.f5.params.toList args.toList ds p := hA0
  rw [Try.params5] at hA hval
  obtain ⟨v0, vs0, d0, ds0, p0, q0, hargs, rfl, rfl, h0, r0⟩ := trodAll_cons hA
  obtain ⟨v1, vs1, d1, ds1, p1, q1, rfl, rfl, rfl, h1, r1⟩ := trodAll_cons r0
  obtain ⟨rfl, rfl, rfl⟩ := trodAll_nil r1
  obtain rfl : args = #[v0, v1] := by cases args; simp_all
  obtain ⟨rfl, rfl⟩ := trodVars_none hV
  obtain ⟨a0, rfl, rfl, rfl, w0⟩ := open_int Try.underlying3 (hval 0 3 v0 rfl rfl) h0
  obtain ⟨a1, len1, cap1, rfl⟩ := okWide_slice Try.underlying31 (hval 1 31 v1 rfl rfl)
  have k1 := h1
  have lt1 : ∀ x ∈ p1, x.block < W.heap.size := by obtain ⟨m, hm⟩ := k1; exact DataW.trod_lt m _ _ _ hm
  obtain ⟨L, w1⟩ : ∃ L, ActsAt W W.heap.size (.slice a1 len1 cap1) L := by
    obtain ⟨fuel, hf⟩ := h1
    exact acts_open hf
  clear hA0 hval0
  refine (does_any W a0 _ L w1).mono fun e W' ⟨he, frm⟩ => ?_
  have bel := frm.below
  subst he
  exact ⟨_, rfl, _, _, _, [], _, [], hW', trodAll_mk1 (shut_bool Try.underlying4 _), (trodAll_cons_mk (shut_int Try.underlying3 w0) (trodAll_cons_mk (Below.trod laidOut (by kernel_rfl) (of_decide_eq_true (by kernel_rfl)) k1 bel lt1) trodAll_mk0)), rfl, bel.frame _, fun h => by cases h⟩

theorem over : Rows.clockDoesRow.holds Try.pinned (OpenSpec.ofChange Rows.clockDoesSpec) :=
  OpenClaim.holds_of_wide 5 Try.f5 rfl rfl rfl rfl rfl rfl rfl ⟨rfl, rfl, rfl, rfl, rfl⟩ rfl rfl rfl rfl rfl (by kernel_rfl) Try.func5 (by kernel_rfl)
    (of_decide_eq_true (by kernel_rfl)) (by unfold Func.isWrapper; first | (rw [if_pos (by decide +kernel)]; kernel_rfl) | (rw [if_neg (by decide +kernel)]; exact ⟨rfl, rfl⟩))
    (fun os started H enc _ => lifted os started H enc)

theorem proved : Rows.ClockDoesSaid := over
#print axioms proved
end Go.Proofs.Ytcncfloigaiojaa.clockDoes
