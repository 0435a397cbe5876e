/- Contracts of stillroomref03: has, Read, Write, Flush, New. -/
import Derived.Test.YtjdobjcbmmdjeaaK2
import Derived.Test.YtjdobjcbmmdjeaaRc
namespace Go.Proofs.Ytjdobjcbmmdjeaa
open Go.RowKit

theorem info93 : (Try.prog.info? 93).map (fun i => (i.zero, i.size, i.bytes)) = some (some (.agg #[.int .i64 0, .string ⟨#[]⟩]), 2, 24) := by kernel_rfl

/-- the reference's disk -/
structure RDsk where
  first : List (List UInt8)
  ev : List (Int × List UInt8)
def EV (l : List (Int × List UInt8)) : List Value := l.flatMap fun x => [.int .i64 x.1, bstr x.2]
theorem EV_append (l k : List (Int × List UInt8)) : EV (l ++ k) = EV l ++ EV k := by simp [EV]
theorem EV_length (l : List (Int × List UInt8)) : (EV l).length = l.length * 2 := by
  induction l with
  | nil => rfl
  | cons a l ih => simp only [EV, List.flatMap_cons, List.length_append, List.length_cons, List.length_nil] at ih ⊢; rw [ih]; omega
theorem EV_get {l : List (Int × List UInt8)} {i : Nat} {x : Int × List UInt8} (h : l[i]? = some x) : (EV l)[i * 2]? = some (.int .i64 x.1) ∧ (EV l)[i * 2 + 1]? = some (bstr x.2) := by
  induction l generalizing i with
  | nil => simp at h
  | cons a l ih =>
    have e : EV (a :: l) = .int .i64 a.1 :: bstr a.2 :: EV l := rfl
    cases i with
    | zero => simp at h; subst h; exact ⟨rfl, rfl⟩
    | succ i =>
      simp at h
      obtain ⟨h1, h2⟩ := ih h
      rw [e, show (i + 1) * 2 = i * 2 + 1 + 1 from by omega, show i * 2 + 1 + 1 + 1 = i * 2 + 1 + 1 + 1 from rfl]
      exact ⟨by simpa using h1, by simpa using h2⟩

def RefAt (w : World) (F : Nat → Prop) (r : Nat) (R : RDsk) : Prop := ∃ vf ve,
  F r ∧ Blk w r 90 [vf, ve] ∧ w.ownsRow 0 9 1 vf R.first.length (strs R.first) ∧ w.ownsRow 0 93 2 ve R.ev.length (EV R.ev) ∧ (∀ b, vf.ownBlock = some b ∨ ve.ownBlock = some b → F b) ∧ ∀ b, F b → b < w.heap.size
section
variable {w w' : World} {F G : Nat → Prop} {r : Nat} {R : RDsk}
theorem RefAt.mod (h : RefAt w F r R) (hm : Mod G w w') (hG : ∀ b, F b → ¬ G b) : RefAt w' F r R := by
  obtain ⟨vf, ve, h1, h2, h3, h4, h5, h6⟩ := h
  exact ⟨vf, ve, h1, h2.mod hm (hG _ h1), own_mod h3 hm (fun b hb => hG b (h5 b (.inl hb))), own_mod h4 hm (fun b hb => hG b (h5 b (.inr hb))), h5, fun b hb => Nat.lt_of_lt_of_le (h6 b hb) hm.size⟩
theorem RefAt.below (h : RefAt w F r R) (hb : Below w.heap.size w w') : RefAt w' F r R := h.mod (G := fun _ => False) (Mod.of_below hb) (fun _ _ h => h)
theorem RefAt.mono (h : RefAt w F r R) (hF : ∀ b, F b → G b) (hG : ∀ b, G b → b < w.heap.size) : RefAt w G r R := by
  obtain ⟨vf, ve, h1, h2, h3, h4, h5, _⟩ := h
  exact ⟨vf, ve, hF _ h1, h2, h3, h4, fun b hb => hF b (h5 b hb), hG⟩
theorem RefAt.lt (h : RefAt w F r R) {b : Nat} (hb : F b) : b < w.heap.size := by
  obtain ⟨_, _, _, _, _, _, _, h6⟩ := h
  exact h6 b hb
theorem RefAt.drew (h : RefAt w F r R) : RefAt w.drew F r R := h.below (Below.refl _ _).drew
theorem RefAt.cell (h : RefAt w F r R) : ∃ Af cf Ae ce, w.cell? ⟨r, 0, none⟩ = some (.slice Af R.first.length cf) ∧ w.cell? ⟨r, 1, none⟩ = some (.slice Ae R.ev.length ce) ∧
    w.ownsRow 0 9 1 (.slice Af R.first.length cf) R.first.length (strs R.first) ∧ w.ownsRow 0 93 2 (.slice Ae R.ev.length ce) R.ev.length (EV R.ev) ∧ r < w.heap.size := by
  obtain ⟨vf, ve, _, hd, hf, he, _, _⟩ := h
  obtain ⟨Af, cf, rfl, _, _⟩ := own_form hf
  obtain ⟨Ae, ce, rfl, _, _⟩ := own_form he
  exact ⟨Af, cf, Ae, ce, by rw [hd.cell]; rfl, by rw [hd.cell]; rfl, hf, he, hd.lt⟩
/-- an event more -/
theorem RefAt.push (h : RefAt w F r R) {vf ve : Value} (h0 : w.cell? ⟨r, 0, none⟩ = some vf) (h1 : w.cell? ⟨r, 1, none⟩ = some ve) {w2 : World} {ve' : Value} (x : Int × List UInt8) (hm : Mod (fun b => ve.ownBlock = some b) w w2)
    (ho : w2.ownsRow 0 93 2 ve' (R.ev.length + 1) (EV R.ev ++ EV [x])) (hat : ve'.ownBlock = ve.ownBlock ∨ ∃ b, ve'.ownBlock = some b ∧ w.heap.size ≤ b) :
    RefAt (w2.setCell ⟨r, 1, none⟩ ve') (fun b => F b ∨ (w.heap.size ≤ b ∧ b < (w2.setCell ⟨r, 1, none⟩ ve').heap.size)) r ⟨R.first, R.ev ++ [x]⟩ ∧ Mod F w (w2.setCell ⟨r, 1, none⟩ ve') := by
  obtain ⟨vf', ve0, k1, k2, k3, k4, k5, k6⟩ := h
  have e0 : vf' = vf := by rw [k2.cell] at h0; simpa using h0
  have e1 : ve0 = ve := by rw [k2.cell] at h1; simpa using h1
  subst e0 e1
  have hnr : ve0.ownBlock ≠ some r := own_blk_ne k4 k2 (by decide)
  have hd2 := k2.mod hm hnr
  have hm2 : Mod F w (w2.setCell ⟨r, 1, none⟩ ve') := (hm.mono (fun b _ hb => k5 b (.inr hb))).setCell (p := ⟨r, 1, none⟩) (fun _ => k1) _
  have hf2 := own_mod k3 hm (fun b hb e => own_ne k3 k4 (by decide) b hb e)
  have ho2 := own_setCell ho (p := ⟨r, 1, none⟩) (own_blk_ne ho hd2 (by decide)) ve'
  refine ⟨⟨vf', ve', .inl k1, hd2.set_ 1 _, own_setCell hf2 (p := ⟨r, 1, none⟩) (own_blk_ne hf2 hd2 (by decide)) _, ?_, fun b hb => ?_, fun b hb => ?_⟩, hm2⟩
  · rw [EV_append, List.length_append]; exact ho2
  · rcases hb with hb | hb
    · exact .inl (k5 b (.inl hb))
    · rcases hat with e | ⟨c, e, hc⟩
      · exact .inl (k5 b (.inr (by rw [← e]; exact hb)))
      · have := own_lt' ho2 hb
        rw [e] at hb; injection hb with hb
        exact .inr ⟨by omega, this⟩
  · rcases hb with hb | hb
    · have := k6 b hb; have := hm2.size; omega
    · exact hb.2
/-- a first sector more -/
theorem RefAt.pushF (h : RefAt w F r R) {vf ve : Value} (h0 : w.cell? ⟨r, 0, none⟩ = some vf) (h1 : w.cell? ⟨r, 1, none⟩ = some ve) {w2 : World} {ve' : Value} (x : List UInt8) (hm : Mod (fun b => vf.ownBlock = some b) w w2)
    (ho : w2.ownsRow 0 9 1 ve' (R.first.length + 1) (strs R.first ++ strs [x])) (hat : ve'.ownBlock = vf.ownBlock ∨ ∃ b, ve'.ownBlock = some b ∧ w.heap.size ≤ b) :
    RefAt (w2.setCell ⟨r, 0, none⟩ ve') (fun b => F b ∨ (w.heap.size ≤ b ∧ b < (w2.setCell ⟨r, 0, none⟩ ve').heap.size)) r ⟨R.first ++ [x], R.ev⟩ ∧ Mod F w (w2.setCell ⟨r, 0, none⟩ ve') := by
  obtain ⟨vf', ve0, k1, k2, k3, k4, k5, k6⟩ := h
  have e0 : vf' = vf := by rw [k2.cell] at h0; simpa using h0
  have e1 : ve0 = ve := by rw [k2.cell] at h1; simpa using h1
  subst e0 e1
  have hnr : vf'.ownBlock ≠ some r := own_blk_ne k3 k2 (by decide)
  have hd2 := k2.mod hm hnr
  have hm2 : Mod F w (w2.setCell ⟨r, 0, none⟩ ve') := (hm.mono (fun b _ hb => k5 b (.inl hb))).setCell (p := ⟨r, 0, none⟩) (fun _ => k1) _
  have hf2 := own_mod k4 hm (fun b hb e => own_ne k4 k3 (by decide) b hb e)
  have ho2 := own_setCell ho (p := ⟨r, 0, none⟩) (own_blk_ne ho hd2 (by decide)) ve'
  refine ⟨⟨ve', ve0, .inl k1, hd2.set_ 0 _, ?_, own_setCell hf2 (p := ⟨r, 0, none⟩) (own_blk_ne hf2 hd2 (by decide)) _, fun b hb => ?_, fun b hb => ?_⟩, hm2⟩
  · have e : strs (R.first ++ [x]) = strs R.first ++ strs [x] := by simp [strs]
    rw [e, List.length_append]; exact ho2
  · rcases hb.symm with hb | hb
    · exact .inl (k5 b (.inr hb))
    · rcases hat with e | ⟨c, e, hc⟩
      · exact .inl (k5 b (.inl (by rw [← e]; exact hb)))
      · have := own_lt' ho2 hb
        rw [e] at hb; injection hb with hb
        exact .inr ⟨by omega, this⟩
  · rcases hb with hb | hb
    · have := k6 b hb; have := hm2.size; omega
    · exact hb.2
/-- a first sector is put anew -/
theorem RefAt.setF (h : RefAt w F r R) {g c : Nat} (h0 : w.cell? ⟨r, 0, none⟩ = some (.slice (some ⟨g, 0, none⟩) R.first.length c)) (n : Nat) (x : List UInt8) :
    RefAt (w.setCell ⟨g, n, none⟩ (bstr x)) F r ⟨R.first.set n x, R.ev⟩ ∧ Mod F w (w.setCell ⟨g, n, none⟩ (bstr x)) := by
  obtain ⟨vf, ve, k1, k2, k3, k4, k5, k6⟩ := h
  have e0 : vf = .slice (some ⟨g, 0, none⟩) R.first.length c := by rw [k2.cell] at h0; simpa using h0
  subst e0
  have hF : F g := k5 g (.inl rfl)
  refine ⟨⟨_, ve, k1, k2.far (p := ⟨g, n, none⟩) (fun e => own_blk_ne k3 k2 (by decide) (by rw [e]; rfl)) _, ?_, own_setCell k4 (p := ⟨g, n, none⟩) (fun e => own_ne k3 k4 (by decide) g rfl e) _, k5, fun b hb => ?_⟩, (Mod.refl _ _).setCell (p := ⟨g, n, none⟩) (fun _ => hF) _⟩
  · have := (k3.stored n (bstr x)).1
    rw [List.length_set]
    simpa [strs, List.map_set] using this
  · have := k6 b hb; simpa using this
end

theorem rhas_any (r m c : Nat) (A : Option Addr) (n : Int) (w : World) (h : w.cell? ⟨r, 0, none⟩ = some (.slice A m c)) : Calls Try.prog 43 #[.pointer (some ⟨r, 0, none⟩), .int .i64 n] w fun e w' => e = .returned (.bool (decide (0 ≤ n ∧ n < (m : Int)))) ∧ w = w' := by
  by_cases h0 : 0 ≤ n
  · by_cases h1 : n < (m : Int)
    · have e : decide (0 ≤ n ∧ n < (m : Int)) = true := by simp [h0, h1]
      rw [e]; clear e
      go_enter Try.func43, Try.ntmps43
      go_wp2_with fail
      go_ret
      exact ⟨rfl, rfl⟩
    · have e : decide (0 ≤ n ∧ n < (m : Int)) = false := by simp [h1]
      rw [e]; clear e
      go_enter Try.func43, Try.ntmps43
      go_wp2_with fail
      go_ret
      exact ⟨rfl, rfl⟩
  · have e : decide (0 ≤ n ∧ n < (m : Int)) = false := by simp [h0]
    rw [e]; clear e
    go_enter Try.func43, Try.ntmps43
    go_wp2_with fail
    go_ret
    exact ⟨rfl, rfl⟩
theorem RefAt.has {w : World} {F : Nat → Prop} {r : Nat} {R : RDsk} (h : RefAt w F r R) (n : Int) : Calls Try.prog 43 #[.pointer (some ⟨r, 0, none⟩), .int .i64 n] w fun e w' => e = .returned (.bool (decide (0 ≤ n ∧ n < (R.first.length : Int)))) ∧ w = w' := by
  obtain ⟨Af, cf, Ae, ce, h0, h1, _⟩ := h.cell
  exact rhas_any r _ _ _ n w h0
end Go.Proofs.Ytjdobjcbmmdjeaa
