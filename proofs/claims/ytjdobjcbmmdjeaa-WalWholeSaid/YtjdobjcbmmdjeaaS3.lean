/- The memory of BlockPlays' loop. -/
import Derived.Test.YtjdobjcbmmdjeaaS2
namespace Go.Proofs.Ytjdobjcbmmdjeaa
open Go.RowKit

structure PlSt (w0 wr : World) (d r : Nat) (F G : Nat → Prop) (S : Dsk) (R : RDsk) (k : Nat) : Prop where
  below : Below w0.heap.size w0 wr
  disk : DiskAt wr F d S
  ref : RefAt wr G r R
  rel : Rel S R k
  good : S.Good k
  wrote : S.wrote.length ≤ 256 * S.ev.length
  fF : ∀ b, F b → w0.heap.size ≤ b
  fG : ∀ b, G b → w0.heap.size ≤ b
  dis : ∀ b, F b → ¬ G b
section
variable {w0 wr w' w1 w2 : World} {d r : Nat} {F G H : Nat → Prop} {S S' : Dsk} {R R' : RDsk} {k : Nat}
theorem DiskAt.lt {w : World} (h : DiskAt w F d S) {b : Nat} (hb : F b) : b < w.heap.size := by
  obtain ⟨_, _, _, _, _, _, _, _, _, _, _, _, _, hlt⟩ := h
  exact hlt b hb
theorem PlSt.frame (h : PlSt w0 wr d r F G S R k) (hm : Mod H wr w') (hH : ∀ b, b < wr.heap.size → H b → w0.heap.size ≤ b ∧ ¬ F b ∧ ¬ G b) : PlSt w0 w' d r F G S R k :=
  have hsz := h.below.size
  ⟨h.below.trans ⟨hm.os, hm.tape, hm.output, by have := hm.size; omega, fun i hi => hm.block i (by omega) (fun e => by have := (hH i (by omega) e).1; omega)⟩,
   h.disk.mod hm (fun b hb e => (hH b (h.disk.lt hb) e).2.1 hb), h.ref.mod hm (fun b hb e => (hH b (h.ref.lt hb) e).2.2 hb), h.rel, h.good, h.wrote, h.fF, h.fG, h.dis⟩
theorem PlSt.later (h : PlSt w0 wr d r F G S R k) (hb : Below wr.heap.size wr w') : PlSt w0 w' d r F G S R k :=
  h.frame (H := fun _ => False) (Mod.of_below hb) (fun _ _ e => e.elim)
/-- a step of both -/
theorem PlSt.step (h : PlSt w0 wr d r F G S R k) (hm1 : Mod F wr w1) (hd : DiskAt w1 (fun b => F b ∨ (wr.heap.size ≤ b ∧ b < w1.heap.size)) d S') (hm2 : Mod G w1 w2)
    (hr : RefAt w2 (fun b => G b ∨ (w1.heap.size ≤ b ∧ b < w2.heap.size)) r R') (rel : Rel S' R' k) (good : S'.Good k) (wrote : S'.wrote.length ≤ 256 * S'.ev.length) :
    PlSt w0 w2 d r (fun b => F b ∨ (wr.heap.size ≤ b ∧ b < w1.heap.size)) (fun b => G b ∨ (w1.heap.size ≤ b ∧ b < w2.heap.size)) S' R' k := by
  have hsz := h.below.size
  have s1 := hm1.size
  have dis : ∀ b, (F b ∨ (wr.heap.size ≤ b ∧ b < w1.heap.size)) → ¬ G b := fun b hb e => by
    rcases hb with hb | hb
    · exact h.dis b hb e
    · have := h.ref.lt e; omega
  refine ⟨(h.below.trans (hm1.below hsz h.fF)).trans (hm2.below (by omega) h.fG), hd.mod hm2 (fun b hb e => dis b hb e), hr, rel, good, wrote, fun b hb => ?_, fun b hb => ?_, fun b hb e => ?_⟩
  · rcases hb with hb | hb
    · exact h.fF b hb
    · omega
  · rcases hb with hb | hb
    · exact h.fG b hb
    · omega
  · rcases e with e | e
    · exact dis b hb e
    · rcases hb with hb | hb
      · have := h.disk.lt hb; omega
      · omega
/-- what lies in neither is as it was -/
theorem PlSt.kept (_h : PlSt w0 wr d r F G S R k) (hm1 : Mod F wr w1) (hm2 : Mod G w1 w2) : Mod (fun b => F b ∨ G b) wr w2 :=
  (hm1.mono (fun _ _ h => .inl h)).trans hm2 (fun _ _ h => .inr h)
theorem PlSt.drew (h : PlSt w0 wr d r F G S R k) : PlSt w0 wr.drew d r F G S R k := h.later (Below.refl _ _).drew
end

theorem names_ok (w : World) : Calls Try.prog 20 #[] w fun e w' => e = .returned (.bool true) ∧ w = w' := by
  go_enter Try.func20, Try.ntmps20
  go_wp2_with fail
  go_ret
  exact ⟨rfl, rfl⟩
theorem u8_next (b : UInt8) : IntKind.u8.wrap ((b.toNat : Int) + 1) = ((b + 1).toNat : Int) := by
  have h := b.toNat_lt
  rw [UInt8.toNat_add]
  simp only [IntKind.wrap, IntKind.signed, IntKind.bits]
  simp
end Go.Proofs.Ytjdobjcbmmdjeaa
