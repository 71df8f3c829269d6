/- Memory: what a call leaves as it was. Plain lemmas on the model's worlds; no program. -/
import Derived.Below
import Derived.WalkKit
import Derived.Deep.Draws
namespace Go.Proofs.Ytcncfloigaiojaa
open Go Go.RowKit

/-- Of the blocks that lay in 'w' none has turned but those of 'F'. -/
structure Frm (F : List Nat) (w w' : World) : Prop where
  os : w'.os = w.os
  tape : w'.tape = w.tape
  output : w'.output = w.output
  size : w.heap.size ≤ w'.heap.size
  block : ∀ k, k < w.heap.size → k ∉ F → w'.heap[k]? = w.heap[k]?

theorem Frm.refl (F : List Nat) (w : World) : Frm F w w := ⟨rfl, rfl, rfl, Nat.le_refl _, fun _ _ _ => rfl⟩
theorem Frm.trans {F G : List Nat} {a b c : World} (h : Frm F a b) (k : Frm G b c) (hG : ∀ x ∈ G, x ∈ F ∨ a.heap.size ≤ x) : Frm F a c :=
  ⟨k.os.trans h.os, k.tape.trans h.tape, k.output.trans h.output, Nat.le_trans h.size k.size, fun i hi hn => by
    rw [k.block i (Nat.lt_of_lt_of_le hi h.size) (fun hg => by
      rcases hG i hg with h1 | h1
      · exact hn h1
      · omega)]
    exact h.block i hi hn⟩
theorem Frm.trans' {F : List Nat} {a b c : World} (h : Frm F a b) (k : Frm F b c) : Frm F a c := h.trans k fun _ hx => .inl hx
theorem Frm.mono {F G : List Nat} {a b : World} (h : Frm F a b) (hG : ∀ x ∈ F, x ∈ G ∨ a.heap.size ≤ x) : Frm G a b := (Frm.refl G a).trans h hG
theorem Frm.nil {F : List Nat} {a b : World} (h : Frm [] a b) : Frm F a b := h.mono (by simp)
theorem Frm.alloc {F : List Nat} {a b : World} (h : Frm F a b) (o : Obj) : Frm F a (b.alloc o) :=
  h.trans (G := []) ⟨rfl, rfl, rfl, by simp, fun k hk _ => Below.heap_alloc _ _ _ hk⟩ (by simp)
theorem Frm.setCell {F : List Nat} {a b : World} (h : Frm F a b) {p : Addr} (hp : p.block ∈ F ∨ a.heap.size ≤ p.block) (u : Value) : Frm F a (b.setCell p u) :=
  h.trans (G := [p.block]) ⟨rfl, rfl, rfl, by simp [World.setCell], fun k _ hn => Below.heap_setCell _ _ _ _ (by simpa using hn)⟩ (by simpa using hp)
theorem Frm.drew {F : List Nat} {a b : World} (h : Frm F a b) : Frm F a b.drew := ⟨h.os, h.tape, h.output, h.size, h.block⟩
theorem Frm.drewN {F : List Nat} {a b : World} (h : Frm F a b) (n : Nat) : Frm F a (b.drewN n) := ⟨h.os, h.tape, h.output, h.size, h.block⟩
theorem Frm.dr {F : List Nat} {w w' : World} (h : ∃ n, w' = w.drewN n) : Frm F w w' := by obtain ⟨n, rfl⟩ := h; exact (Frm.refl _ _).drewN n
theorem Frm.dr' {F : List Nat} {w w' : World} (h : ∃ n, w' = w.drew.drewN n) : Frm F w w' := by obtain ⟨n, rfl⟩ := h; exact ((Frm.refl _ _).drew).drewN n
theorem Frm.below {a b : World} (h : Frm [] a b) : Below a.heap.size a b := ⟨h.os, h.tape, h.output, h.size, fun k hk => h.block k hk (by simp)⟩
theorem Frm.of_below {a b : World} (h : Below a.heap.size a b) : Frm [] a b := ⟨h.os, h.tape, h.output, h.size, fun k hk _ => h.block k hk⟩
theorem Frm.of_grown {a b : World} {r : Option Nat} (h : a.grownBy b r) : Frm r.toList a b := ⟨h.os, h.tape, h.output, h.size, fun k hk hn => h.block k hk (fun e => hn (by simp [← e]))⟩
theorem Frm.grown {a b : World} {k : Nat} (h : Frm [k] a b) : a.grownBy b (some k) := ⟨h.os, h.tape, h.output, h.size, fun i hi hn => h.block i hi (by simpa using hn)⟩
theorem Frm.get {F : List Nat} {a b : World} (h : Frm F a b) {k : Nat} {o : Obj} (hk : a.heap[k]? = some o) (hn : k ∉ F) : b.heap[k]? = some o := by
  have hlt : k < a.heap.size := (Array.getElem?_eq_some_iff.1 hk).1
  rw [h.block k hlt hn]; exact hk
theorem Frm.cell {F : List Nat} {a b : World} (h : Frm F a b) {p : Addr} (hp : p.block < a.heap.size) (hn : p.block ∉ F) : b.cell? p = a.cell? p := World.cell?_of_block (h.block _ hp hn)
theorem lt_of_block {w : World} {k : Nat} {o : Obj} (h : w.heap[k]? = some o) : k < w.heap.size := (Array.getElem?_eq_some_iff.1 h).1
/-- a store into a block that is known whole -/
theorem block_setCell {w : World} {b off : Nat} {c : Array Value} {t : TypeId} {fz : Nat × Nat} (h : w.heap[b]? = some (.cells c t fz)) (v : Value) :
    (w.setCell ⟨b, off, none⟩ v).heap[b]? = some (.cells (c.setIfInBounds off v) t fz) := by
  simp [World.setCell, Array.getElem?_modify, h]
theorem block_setCell_ne {w : World} {b b' off : Nat} (hne : b' ≠ b) (v : Value) : (w.setCell ⟨b, off, none⟩ v).heap[b']? = w.heap[b']? := Below.heap_setCell _ _ _ _ hne
theorem block_alloc {w : World} {b : Nat} {o : Obj} (h : w.heap[b]? = some o) (x : Obj) : (w.alloc x).heap[b]? = some o := by
  rw [Below.heap_alloc _ _ _ (lt_of_block h)]; exact h
theorem block_new (w : World) (o : Obj) : (w.alloc o).heap[w.heap.size]? = some o := heap_alloc_new w o
/-- a choice for each number below m -/
theorem pick {β : Type} [Inhabited β] {m : Nat} {p : Nat → β → Prop} (h : ∀ i, i < m → ∃ b, p i b) : ∃ f : Nat → β, ∀ i, i < m → p i (f i) := by
  classical
  refine ⟨fun i => if hi : i < m then Classical.choose (h i hi) else default, fun i hi => ?_⟩
  simp only [dif_pos hi]
  exact Classical.choose_spec (h i hi)
theorem addr_add (b o n : Nat) : (⟨b, o, none⟩ : Addr).add n = ⟨b, o + n, none⟩ := by
  unfold Addr.add
  split
  · subst_vars; rfl
  · rfl
end Go.Proofs.Ytcncfloigaiojaa
