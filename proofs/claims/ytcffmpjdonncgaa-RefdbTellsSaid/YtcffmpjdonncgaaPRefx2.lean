/- RefdbX: the reference's sorted in the print's form, by hand (its contract: R1). In place of the printed text of that number. -/
import Derived.Test.YtcffmpjdonncgaaPRefx0
import Derived.Test.YtcffmpjdonncgaaR1
namespace Go.Proofs.Ytcffmpjdonncgaa.PRef
open Go.RowKit Go.Proofs.YtcffmpjdonncgaaW.PrintWords Go.Proofs.Ytcffmpjdonncgaa

noncomputable def stillroomref12_sorted.f (_k : Nat) (l0 : List ByteArray) : Option (List ByteArray) := if l0.length ≤ 1000000000 then some (SU l0) else none
theorem stillroomref12_sorted.mono : ∀ a0 k, LeO (stillroomref12_sorted.f k a0) (stillroomref12_sorted.f (k + 1) a0) := fun _ _ => LeO.refl _
theorem stillroomref12_sorted.calls (k : Nat) (A0 : Option Addr) (c0 : Nat) (l0 : List ByteArray) (r : List ByteArray) (w : World) (hr0 : Kd.C Kd.string w A0 l0.length l0) (hc0 : l0.length ≤ c0) (h : stillroomref12_sorted.f k l0 = some r) :
    Calls Try.prog 37 #[.slice A0 l0.length c0] w fun e w' => ∃ v0_ : Value, e = .returned (v0_) ∧ Kd.R Kd.string 9 w' w.heap.size (fun _ => True) v0_ r ∧ Below w.heap.size w w' := by
  unfold stillroomref12_sorted.f at h
  split at h
  · rename_i hl
    injection h with h
    subst h
    refine (rsorted_ok w _ A0 l0.length c0 l0 (sl_of_C hr0 hc0) hl).mono ?_
    rintro e w' ⟨v, rfl, A, c, rfl, h1, h2, h3⟩
    exact ⟨_, rfl, Kd.R_of_own (own_raise h1 h2) (fun _ _ => trivial), h3⟩
  · cases h
end Go.Proofs.Ytcffmpjdonncgaa.PRef
