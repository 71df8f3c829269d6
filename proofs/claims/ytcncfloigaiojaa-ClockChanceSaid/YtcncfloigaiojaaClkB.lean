/- The bytes among a law's arguments, opened. -/
import Derived.Test.YtcncfloigaiojaaClkC2
import Derived.ProofKit
import Derived.OpenShut
namespace Go.Proofs.Ytcncfloigaiojaa
open Go.ChangeShapes Go.WideShapes Go.ChangeAt Go.RowKit
theorem bytes_open {H : Type} {enc : TypeId × Value → H} {W : World} {fuel : Nat} {a : Option Addr} {len cap : Nat} {x : DataW H × List MemPlace}
    (h : DataW.trod enc Try.prog W 0 (fun _ => true) true fuel 22 [.slice a len cap] = some x) : ∃ Z, BytesAt W W.heap.size (.slice a len cap) Z := by
  rcases open_ints Try.underlying22 Try.underlying5 (by kernel_rfl) h with ⟨hcs, _⟩ | ⟨ad, l, c, zs, hcs, _, hl, hm, hz, _, hcell, hwz⟩
  · simp only [List.cons.injEq, Value.slice.injEq, and_true] at hcs
    obtain ⟨rfl, rfl, rfl⟩ := hcs
    exact ⟨[], ⟨none, 0, rfl⟩, fun k hk => absurd hk (by simp)⟩
  · simp only [List.cons.injEq, Value.slice.injEq, and_true] at hcs
    obtain ⟨rfl, rfl, rfl⟩ := hcs
    have hz1 : zs.length = cap := by simpa using hz
    have hzl : len ≤ zs.length := by omega
    refine ⟨(zs.take len).map Int.toNat, ⟨some ad, cap, by simp; omega⟩, fun k hk => ?_⟩
    have hk' : k < len := by simp at hk; omega
    obtain ⟨b, o, sp⟩ := ad
    have hsp : sp = none := by
      have h0 := hcell 0 (by omega)
      cases sp with
      | none => rfl
      | some s =>
        simp only [Addr.add, if_true, World.cell?] at h0
        split at h0 <;> simp at h0
    subst hsp
    have hc := hcell k (by omega)
    rw [addr_add] at hc
    have hg : ((zs.take len).map Int.toNat).getD k 0 = (zs.getD k 0).toNat := by
      have hkz : k < zs.length := by omega
      simp [hk', hkz]
    have hwf := hwz (zs.getD k 0) (by
      have hkz : k < zs.length := by omega
      simp [hkz])
    have hbd : 0 ≤ zs.getD k 0 ∧ zs.getD k 0 < 256 := by
      have := bounds_u8 hwf
      omega
    refine ⟨b, o, cap, by simp; omega, ?_, ?_, ?_⟩
    · have := World.block_lt_of_cell? _ _ hc; exact this
    · rw [hg, hc, Int.toNat_of_nonneg hbd.1]
    · rw [hg]; omega
end Go.Proofs.Ytcncfloigaiojaa
