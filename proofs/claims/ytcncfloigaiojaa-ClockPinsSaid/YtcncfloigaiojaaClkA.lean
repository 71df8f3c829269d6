/- The acts among a law's arguments, opened. -/
import Derived.Test.YtcncfloigaiojaaClkD
import Derived.Test.YtcncfloigaiojaaOpenS
import Derived.ProofKit
import Derived.OpenShut
namespace Go.Proofs.Ytcncfloigaiojaa
open Go.ChangeShapes Go.WideShapes Go.ChangeAt Go.RowKit
theorem acts_open {H : Type} {enc : TypeId × Value → H} {W : World} {fuel : Nat} {a : Option Addr} {len cap : Nat} {x : DataW H × List MemPlace}
    (h : DataW.trod enc Try.prog W 0 (fun _ => true) true fuel 31 [.slice a len cap] = some x) : ∃ L, ActsAt W W.heap.size (.slice a len cap) L := by
  rcases open_slice_fields Try.underlying31 Try.underlying33 (by kernel_rfl) (by kernel_rfl) h with ⟨hcs, _⟩ | ⟨ad, l, c, m, D, Pl, hcs, _, hl, _, hm, _, hi⟩
  · simp only [List.cons.injEq, Value.slice.injEq, and_true] at hcs
    obtain ⟨rfl, rfl, rfl⟩ := hcs
    exact ⟨[], ⟨none, 0, rfl⟩, fun k hk => absurd hk (by simp)⟩
  · simp only [List.cons.injEq, Value.slice.injEq, and_true] at hcs
    obtain ⟨rfl, rfl, rfl⟩ := hcs
    have hm' : len ≤ m := by rw [hm]; split <;> omega
    obtain ⟨f, one⟩ : ∃ f : Nat → Int × Int, ∀ i, i < m → W.cell? (ad.add (i * 2)) = some (.int .i64 (f i).1) ∧ W.cell? (ad.add (i * 2 + 1)) = some (.int .i64 (f i).2) := by
      refine pick (β := Int × Int) (p := fun i t => W.cell? (ad.add (i * 2)) = some (.int .i64 t.1) ∧ W.cell? (ad.add (i * 2 + 1)) = some (.int .i64 t.2)) fun i him => ?_
      obtain ⟨ys, n, _, _, _, hf⟩ := hi i him
      obtain ⟨v0, y0, hc0, _, ht0⟩ := hf 0 _ rfl
      obtain ⟨v1, y1, hc1, _, ht1⟩ := hf 1 _ rfl
      obtain ⟨d, e0, _, _⟩ := DataW.trod_int Try.underlying3 ht0
      obtain ⟨k, e1, _, _⟩ := DataW.trod_int Try.underlying3 ht1
      simp only [List.cons.injEq, and_true] at e0 e1
      subst e0 e1
      exact ⟨(d, k), hc0, hc1⟩
    refine ⟨(List.range len).map f, ⟨some ad, cap, by simp⟩, fun k hk => ?_⟩
    have hk' : k < len := by simpa using hk
    have hf := one k (by omega)
    have hg : ((List.range len).map f).getD k (0, 0) = f k := by simp [hk']
    obtain ⟨b, o, sp⟩ := ad
    have hsp : sp = none := by
      obtain ⟨h0, _⟩ := one 0 (by omega)
      cases sp with
      | none => rfl
      | some s =>
        simp only [Nat.zero_mul, Addr.add, if_true, World.cell?] at h0
        split at h0 <;> simp at h0
    subst hsp
    rw [addr_add, addr_add] at hf
    refine ⟨b, o, cap, by simp, ?_, ?_, ?_⟩
    · have := World.block_lt_of_cell? _ _ hf.1; exact this
    · rw [hg]; exact hf.1
    · rw [hg, Nat.add_assoc]; exact hf.2

end Go.Proofs.Ytcncfloigaiojaa
