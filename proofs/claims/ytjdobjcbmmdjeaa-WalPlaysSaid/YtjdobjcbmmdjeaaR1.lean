/- Contracts of stillroomref03: has, Read, Write, Flush, New. -/
import Derived.Test.YtjdobjcbmmdjeaaK2
import Derived.Test.YtjdobjcbmmdjeaaRc
namespace Go.Proofs.Ytjdobjcbmmdjeaa
open Go.RowKit

theorem info93 : (Try.prog.info? 93).map (fun i => (i.zero, i.size, i.bytes)) = some (some (.agg #[.int .i64 0, .string ⟨#[]⟩]), 2, 24) := by kernel_rfl

/-- the reference's disk -/
structure RDsk where
  first : List (List UInt8)
  ev : List (Int × List UInt8)
def EV (l : List (Int × List UInt8)) : List Value := l.flatMap fun x => [.int .i64 x.1, bstr x.2]
theorem EV_append (l k : List (Int × List UInt8)) : EV (l ++ k) = EV l ++ EV k := by simp [EV]
theorem EV_length (l : List (Int × List UInt8)) : (EV l).length = l.length * 2 := by
  induction l with
  | nil => rfl
  | cons a l ih => simp only [EV, List.flatMap_cons, List.length_append, List.length_cons, List.length_nil] at ih ⊢; rw [ih]; omega
theorem EV_get {l : List (Int × List UInt8)} {i : Nat} {x : Int × List UInt8} (h : l[i]? = some x) : (EV l)[i * 2]? = some (.int .i64 x.1) ∧ (EV l)[i * 2 + 1]? = some (bstr x.2) := by
  induction l generalizing i with
  | nil => simp at h
  | cons a l ih =>
    have e : EV (a :: l) = .int .i64 a.1 :: bstr a.2 :: EV l := rfl
    cases i with
    | zero => simp at h; subst h; exact ⟨rfl, rfl⟩
    | succ i =>
      simp at h
      obtain ⟨h1, h2⟩ := ih h
      rw [e, show (i + 1) * 2 = i * 2 + 1 + 1 from by omega, show i * 2 + 1 + 1 + 1 = i * 2 + 1 + 1 + 1 from rfl]
      exact ⟨by simpa using h1, by simpa using h2⟩

def RefAt (w : World) (F : Nat → Prop) (r : Nat) (R : RDsk) : Prop := ∃ vf ve,
  F r ∧ Blk w r 90 [vf, ve] ∧ w.ownsRow 0 9 1 vf R.first.length (strs R.first) ∧ w.ownsRow 0 93 2 ve R.ev.length (EV R.ev) ∧ (∀ b, vf.ownBlock = some b ∨ ve.ownBlock = some b → F b) ∧ ∀ b, F b → b < w.heap.size
section
variable {w w' : World} {F G : Nat → Prop} {r : Nat} {R : RDsk}
theorem RefAt.mod (h : RefAt w F r R) (hm : Mod G w w') (hG : ∀ b, F b → ¬ G b) : RefAt w' F r R := by
  obtain ⟨vf, ve, h1, h2, h3, h4, h5, h6⟩ := h
  exact ⟨vf, ve, h1, h2.mod hm (hG _ h1), own_mod h3 hm (fun b hb => hG b (h5 b (.inl hb))), own_mod h4 hm (fun b hb => hG b (h5 b (.inr hb))), h5, fun b hb => Nat.lt_of_lt_of_le (h6 b hb) hm.size⟩
theorem RefAt.below (h : RefAt w F r R) (hb : Below w.heap.size w w') : RefAt w' F r R := h.mod (G := fun _ => False) (Mod.of_below hb) (fun _ _ h => h)
theorem RefAt.mono (h : RefAt w F r R) (hF : ∀ b, F b → G b) (hG : ∀ b, G b → b < w.heap.size) : RefAt w G r R := by
  obtain ⟨vf, ve, h1, h2, h3, h4, h5, _⟩ := h
  exact ⟨vf, ve, hF _ h1, h2, h3, h4, fun b hb => hF b (h5 b hb), hG⟩
theorem RefAt.lt (h : RefAt w F r R) {b : Nat} (hb : F b) : b < w.heap.size := by
  obtain ⟨_, _, _, _, _, _, _, h6⟩ := h
  exact h6 b hb
theorem RefAt.drew (h : RefAt w F r R) : RefAt w.drew F r R := h.below (Below.refl _ _).drew
theorem RefAt.cell (h : RefAt w F r R) : ∃ Af cf Ae ce, w.cell? ⟨r, 0, none⟩ = some (.slice Af R.first.length cf) ∧ w.cell? ⟨r, 1, none⟩ = some (.slice Ae R.ev.length ce) ∧
    w.ownsRow 0 9 1 (.slice Af R.first.length cf) R.first.length (strs R.first) ∧ w.ownsRow 0 93 2 (.slice Ae R.ev.length ce) R.ev.length (EV R.ev) ∧ r < w.heap.size := by
  obtain ⟨vf, ve, _, hd, hf, he, _, _⟩ := h
  obtain ⟨Af, cf, rfl, _, _⟩ := own_form hf
  obtain ⟨Ae, ce, rfl, _, _⟩ := own_form he
  exact ⟨Af, cf, Ae, ce, by rw [hd.cell]; rfl, by rw [hd.cell]; rfl, hf, he, hd.lt⟩
/-- an event more -/
theorem RefAt.push (h : RefAt w F r R) {vf ve : Value} (h0 : w.cell? ⟨r, 0, none⟩ = some vf) (h1 : w.cell? ⟨r, 1, none⟩ = some ve) {w2 : World} {ve' : Value} (x : Int × List UInt8) (hm : Mod (fun b => ve.ownBlock = some b) w w2)
    (ho : w2.ownsRow 0 93 2 ve' (R.ev.length + 1) (EV R.ev ++ EV [x])) (hat : ve'.ownBlock = ve.ownBlock ∨ ∃ b, ve'.ownBlock = some b ∧ w.heap.size ≤ b) :
    RefAt (w2.setCell ⟨r, 1, none⟩ ve') (fun b => F b ∨ (w.heap.size ≤ b ∧ b < (w2.setCell ⟨r, 1, none⟩ ve').heap.size)) r ⟨R.first, R.ev ++ [x]⟩ ∧ Mod F w (w2.setCell ⟨r, 1, none⟩ ve') := by
  obtain ⟨vf', ve0, k1, k2, k3, k4, k5, k6⟩ := h
  have e0 : vf' = vf := by rw [k2.cell] at h0; simpa using h0
  have e1 : ve0 = ve := by rw [k2.cell] at h1; simpa using h1
  subst e0 e1
  have hnr : ve0.ownBlock ≠ some r := own_blk_ne k4 k2 (by decide)
  have hd2 := k2.mod hm hnr
  have hm2 : Mod F w (w2.setCell ⟨r, 1, none⟩ ve') := (hm.mono (fun b _ hb => k5 b (.inr hb))).setCell (p := ⟨r, 1, none⟩) (fun _ => k1) _
  have hf2 := own_mod k3 hm (fun b hb e => own_ne k3 k4 (by decide) b hb e)
  have ho2 := own_setCell ho (p := ⟨r, 1, none⟩) (own_blk_ne ho hd2 (by decide)) ve'
  refine ⟨⟨vf', ve', .inl k1, hd2.set_ 1 _, own_setCell hf2 (p := ⟨r, 1, none⟩) (own_blk_ne hf2 hd2 (by decide)) _, ?_, fun b hb => ?_, fun b hb => ?_⟩, hm2⟩
  · rw [EV_append, List.length_append]; exact ho2
  · rcases hb with hb | hb
    · exact .inl (k5 b (.inl hb))
    · rcases hat with e | ⟨c, e, hc⟩
      · exact .inl (k5 b (.inr (by rw [← e]; exact hb)))
      · have := own_lt' ho2 hb
        rw [e] at hb; injection hb with hb
        exact .inr ⟨by omega, this⟩
  · rcases hb with hb | hb
    · have := k6 b hb; have := hm2.size; omega
    · exact hb.2
/-- a first sector more -/
theorem RefAt.pushF (h : RefAt w F r R) {vf ve : Value} (h0 : w.cell? ⟨r, 0, none⟩ = some vf) (h1 : w.cell? ⟨r, 1, none⟩ = some ve) {w2 : World} {ve' : Value} (x : List UInt8) (hm : Mod (fun b => vf.ownBlock = some b) w w2)
    (ho : w2.ownsRow 0 9 1 ve' (R.first.length + 1) (strs R.first ++ strs [x])) (hat : ve'.ownBlock = vf.ownBlock ∨ ∃ b, ve'.ownBlock = some b ∧ w.heap.size ≤ b) :
    RefAt (w2.setCell ⟨r, 0, none⟩ ve') (fun b => F b ∨ (w.heap.size ≤ b ∧ b < (w2.setCell ⟨r, 0, none⟩ ve').heap.size)) r ⟨R.first ++ [x], R.ev⟩ ∧ Mod F w (w2.setCell ⟨r, 0, none⟩ ve') := by
  obtain ⟨vf', ve0, k1, k2, k3, k4, k5, k6⟩ := h
  have e0 : vf' = vf := by rw [k2.cell] at h0; simpa using h0
  have e1 : ve0 = ve := by rw [k2.cell] at h1; simpa using h1
  subst e0 e1
  have hnr : vf'.ownBlock ≠ some r := own_blk_ne k3 k2 (by decide)
  have hd2 := k2.mod hm hnr
  have hm2 : Mod F w (w2.setCell ⟨r, 0, none⟩ ve') := (hm.mono (fun b _ hb => k5 b (.inl hb))).setCell (p := ⟨r, 0, none⟩) (fun _ => k1) _
  have hf2 := own_mod k4 hm (fun b hb e => own_ne k4 k3 (by decide) b hb e)
  have ho2 := own_setCell ho (p := ⟨r, 0, none⟩) (own_blk_ne ho hd2 (by decide)) ve'
  refine ⟨⟨ve', ve0, .inl k1, hd2.set_ 0 _, ?_, own_setCell hf2 (p := ⟨r, 0, none⟩) (own_blk_ne hf2 hd2 (by decide)) _, fun b hb => ?_, fun b hb => ?_⟩, hm2⟩
  · have e : strs (R.first ++ [x]) = strs R.first ++ strs [x] := by simp [strs]
    rw [e, List.length_append]; exact ho2
  · rcases hb.symm with hb | hb
    · exact .inl (k5 b (.inr hb))
    · rcases hat with e | ⟨c, e, hc⟩
      · exact .inl (k5 b (.inl (by rw [← e]; exact hb)))
      · have := own_lt' ho2 hb
        rw [e] at hb; injection hb with hb
        exact .inr ⟨by omega, this⟩
  · rcases hb with hb | hb
    · have := k6 b hb; have := hm2.size; omega
    · exact hb.2
/-- a first sector is put anew -/
theorem RefAt.setF (h : RefAt w F r R) {g c : Nat} (h0 : w.cell? ⟨r, 0, none⟩ = some (.slice (some ⟨g, 0, none⟩) R.first.length c)) (n : Nat) (x : List UInt8) :
    RefAt (w.setCell ⟨g, n, none⟩ (bstr x)) F r ⟨R.first.set n x, R.ev⟩ ∧ Mod F w (w.setCell ⟨g, n, none⟩ (bstr x)) := by
  obtain ⟨vf, ve, k1, k2, k3, k4, k5, k6⟩ := h
  have e0 : vf = .slice (some ⟨g, 0, none⟩) R.first.length c := by rw [k2.cell] at h0; simpa using h0
  subst e0
  have hF : F g := k5 g (.inl rfl)
  refine ⟨⟨_, ve, k1, k2.far (p := ⟨g, n, none⟩) (fun e => own_blk_ne k3 k2 (by decide) (by rw [e]; rfl)) _, ?_, own_setCell k4 (p := ⟨g, n, none⟩) (fun e => own_ne k3 k4 (by decide) g rfl e) _, k5, fun b hb => ?_⟩, (Mod.refl _ _).setCell (p := ⟨g, n, none⟩) (fun _ => hF) _⟩
  · have := (k3.stored n (bstr x)).1
    rw [List.length_set]
    simpa [strs, List.map_set] using this
  · have := k6 b hb; simpa using this
end

theorem rhas_any (r m c : Nat) (A : Option Addr) (n : Int) (w : World) (h : w.cell? ⟨r, 0, none⟩ = some (.slice A m c)) : Calls Try.prog 43 #[.pointer (some ⟨r, 0, none⟩), .int .i64 n] w fun e w' => e = .returned (.bool (decide (0 ≤ n ∧ n < (m : Int)))) ∧ w = w' := by
  by_cases h0 : 0 ≤ n
  · by_cases h1 : n < (m : Int)
    · have e : decide (0 ≤ n ∧ n < (m : Int)) = true := by simp [h0, h1]
      rw [e]; clear e
      go_enter Try.func43, Try.ntmps43
      go_wp2_with fail
      go_ret
      exact ⟨rfl, rfl⟩
    · have e : decide (0 ≤ n ∧ n < (m : Int)) = false := by simp [h1]
      rw [e]; clear e
      go_enter Try.func43, Try.ntmps43
      go_wp2_with fail
      go_ret
      exact ⟨rfl, rfl⟩
  · have e : decide (0 ≤ n ∧ n < (m : Int)) = false := by simp [h0]
    rw [e]; clear e
    go_enter Try.func43, Try.ntmps43
    go_wp2_with fail
    go_ret
    exact ⟨rfl, rfl⟩
theorem RefAt.has {w : World} {F : Nat → Prop} {r : Nat} {R : RDsk} (h : RefAt w F r R) (n : Int) : Calls Try.prog 43 #[.pointer (some ⟨r, 0, none⟩), .int .i64 n] w fun e w' => e = .returned (.bool (decide (0 ≤ n ∧ n < (R.first.length : Int)))) ∧ w = w' := by
  obtain ⟨Af, cf, Ae, ce, h0, h1, _⟩ := h.cell
  exact rhas_any r _ _ _ n w h0
end Go.Proofs.Ytjdobjcbmmdjeaa
namespace Go.Proofs.Ytjdobjcbmmdjeaa
open Go.RowKit

/-- what it tells of sector n -/
def lastEv (ev : List (Int × List UInt8)) (n : Int) : Nat → Option (List UInt8)
  | 0 => none
  | i + 1 => match ev[i]? with | some x => if x.1 = n then some x.2 else lastEv ev n i | none => lastEv ev n i
def RDsk.get (R : RDsk) (n : Nat) : List UInt8 := match lastEv R.ev n R.ev.length with | some b => b | none => (R.first[n]?).getD []

theorem rflush_ok (w : World) (F : Nat → Prop) (r : Nat) (R : RDsk) (h : RefAt w F r R) (hev : R.ev.length ≤ 1000000000) :
    Calls Try.prog 22 #[.pointer (some ⟨r, 0, none⟩)] w fun e w' => e = .returned (.tuple #[]) ∧
      RefAt w' (fun b => F b ∨ (w.heap.size ≤ b ∧ b < w'.heap.size)) r ⟨R.first, R.ev ++ [(-1, [])]⟩ ∧ Mod F w w' := by
  obtain ⟨Af, cf, Ae, ce, c0, c1, hof, hoe, hlt⟩ := h.cell
  obtain ⟨vf, ve, hFr, hd, _⟩ := (id h : ∃ _, _)
  have HH := Lib.hid h
  have H0 := Lib.hid c0
  have H1 := Lib.hid c1
  have HE := Lib.hid hoe
  have HD := Lib.hid hd
  have f1 := hd.frozen 1
  clear h hof hoe hd c0
  go_enter Try.func22, Try.ntmps22
  go_wp2_with (at_builtin
               refine wpList_app _ rfl (.tmp 6) (.tmp 8) 88 rfl 93 _ 2 24 Try.underlying88 info93 rfl (by omega) (by omega) (.slice Ae R.ev.length ce) R.ev.length (EV R.ev) rfl
                 (HE.out.alloc _) (fun i => i = w.heap.size) (.slice (some ⟨w.heap.size, 0, none⟩) 1 1) 1 [.int .i64 (-1), .string ⟨#[]⟩] rfl
                 (Sl.of_blk (Blk.new w 93 #[.int .i64 (-1), .string ⟨#[]⟩]) 2 1 1 rfl (by omega)) (by simp [Value.oneCell']) (by omega) ?_
               intro Ae' ce' w2 hoe2 hg2 hat2 _
               have hm2 : Mod (fun i => (Value.slice Ae R.ev.length ce).ownBlock = some i) w w2 := ((Mod.refl _ _).alloc _).grown hg2 (fun k hk _ => hk)
               have hd2 : Blk w2 r 90 _ := HD.out.mod hm2 (fun e => own_blk_ne HE.out HD.out (by decide) e)
               have c22 : w2.cell? ⟨r, 1, none⟩ = some ve := by rw [hd2.cell]; rfl
               have f22 := hd2.frozen 1
               have hlt2 := hd2.lt
               have HW2 := Lib.hid (And.intro hoe2 (And.intro hm2 hat2))
               clear hd2 hoe2 hg2 hat2 hm2)
  go_end0
  obtain ⟨hoe2, hm2, hat2⟩ := HW2.out
  obtain ⟨k1, k2⟩ := HH.out.push H0.out H1.out (-1, []) hm2 hoe2 (hat2.imp id (fun e => ⟨_, e, by simp⟩))
  exact ⟨rfl, k1, k2⟩

theorem rwrite_out (w : World) (F : Nat → Prop) (r : Nat) (R : RDsk) (n : Int) (v : Value) (h : RefAt w F r R) (hn : ¬ (0 ≤ n ∧ n < (R.first.length : Int))) :
    Calls Try.prog 21 #[.pointer (some ⟨r, 0, none⟩), .int .i64 n, v] w fun e w' => e = .returned (.int .i64 2) ∧ w = w' := by
  have hh := h.has n
  rw [decide_eq_false hn] at hh
  have HH := Lib.hid hh
  clear hh h hn
  go_enter Try.func21, Try.ntmps21
  go_wp2_with fail
  refine HH.out.mono ?_
  rintro e w' ⟨rfl, rfl⟩
  go_wp2_with fail
  go_ret
  exact ⟨rfl, rfl⟩
theorem rwrite_odd (w : World) (F : Nat → Prop) (r : Nat) (R : RDsk) (n : Int) (A : Option Addr) (m c : Nat) (h : RefAt w F r R) (hm : m ≠ 256) :
    Calls Try.prog 21 #[.pointer (some ⟨r, 0, none⟩), .int .i64 n, .slice A m c] w fun e w' => e = .returned (.int .i64 2) ∧ w = w' := by
  by_cases hn : 0 ≤ n ∧ n < (R.first.length : Int)
  · have hh := h.has n
    rw [decide_eq_true hn] at hh
    have HH := Lib.hid hh
    have hmi : ((m : Int) == 256) = false := by simp; omega
    clear hh h hn
    go_enter Try.func21, Try.ntmps21
    go_wp2_with fail
    refine HH.out.mono ?_
    rintro e w' ⟨rfl, rfl⟩
    go_wp2_with fail
    go_ret
    exact ⟨rfl, rfl⟩
  · exact rwrite_out w F r R n _ h hn
set_option maxRecDepth 100000 in
theorem rwrite_ok (w : World) (F G : Nat → Prop) (r n : Nat) (R : RDsk) (A : Option Addr) (c : Nat) (bs : List UInt8) (h : RefAt w F r R) (hev : R.ev.length ≤ 1000000000) (hn : n < R.first.length) (hb : Sl w G 1 (.slice A 256 c) 256 (B8 bs)) :
    Calls Try.prog 21 #[.pointer (some ⟨r, 0, none⟩), .int .i64 n, .slice A 256 c] w fun e w' => e = .returned (.int .i64 0) ∧
      RefAt w' (fun b => F b ∨ (w.heap.size ≤ b ∧ b < w'.heap.size)) r ⟨R.first, R.ev ++ [((n : Int), bs)]⟩ ∧ Mod F w w' := by
  have hh := h.has n
  rw [decide_eq_true ⟨by omega, by omega⟩] at hh
  have HHas := Lib.hid hh
  have hconv := run_str w.drew _ 22 5 9 A 256 c bs Try.underlying22 Try.underlying5 Try.underlying9 hb
  obtain ⟨Af, cf, Ae, ce, c0, c1, hof, hoe, hlt⟩ := h.cell
  obtain ⟨vf, ve, hFr, hd, _⟩ := (id h : ∃ _, _)
  have HH := Lib.hid h
  have H0 := Lib.hid c0
  have H1 := Lib.hid c1
  have HE := Lib.hid hoe
  have HD := Lib.hid hd
  have HC := Lib.hid hconv
  have HEV := Lib.hid hev
  clear h hof hoe hd c0 c1 hh hconv hev hn hb
  go_enter Try.func21, Try.ntmps21
  go_wp2_with fail
  refine HHas.out.mono ?_
  rintro e w' ⟨rfl, rfl⟩
  go_upto_region 3 with fail
  try simp only [Act.put, List.setIfInBounds_toArray, List.set_cons_zero, List.set_cons_succ]
  obtain ⟨Inv, hInv⟩ : ∃ Inv : Done → World → Prop, Inv = Chain3 9 10 13 (fun wI => wI = w.drew) (fun x wI => x = .slice (some ⟨w.drew.heap.size, 0, none⟩) 1 1 ∧ wI = w.drew.alloc (.cells #[.int .i64 n, bstr bs] 93))
    (fun x y wI => (∃ A' c', y = .slice A' (R.ev.length + 1) c') ∧ Mod (fun i => (Value.slice Ae R.ev.length ce).ownBlock = some i) w wI ∧ wI.ownsRow 0 93 2 y (R.ev.length + 1) (EV R.ev ++ EV [((n : Int), bs)]) ∧ (y.ownBlock = (Value.slice Ae R.ev.length ce).ownBlock ∨ ∃ b, y.ownBlock = some b ∧ w.heap.size ≤ b))
    (fun x y z wI => RefAt wI (fun b => F b ∨ (w.heap.size ≤ b ∧ b < wI.heap.size)) r ⟨R.first, R.ev ++ [((n : Int), bs)]⟩ ∧ Mod F w wI) := ⟨_, rfl⟩
  have HI := Lib.hid hInv
  have hc1 : ∀ τ wI, Inv τ wI → τ 10 = none → Now (fun wI => wI.cell? ⟨r, 1, none⟩ = some (.slice Ae R.ev.length ce)) wI := by
    intro τ wI h h10
    rw [hInv] at h
    rcases h.upto1 h10 with rfl | ⟨x, rfl, rfl⟩
    · exact H1.out
    · have := (HD.out.drew.alloc (.cells #[.int .i64 n, bstr bs] 93)).cell 1
      have h2 := HD.out.cell 1
      rw [H1.out] at h2
      exact this.trans h2.symm
  have HC1 := Lib.hid hc1
  have H00 : Hid (Inv Done.none w.drew) := by rw [hInv]; exact Chain3.start rfl
  clear hInv hc1
  refine wp_region_inv (by kernel_rfl) [⟨0, false, [], [13]⟩, ⟨1, false, [], [10, 13]⟩, ⟨2, false, [], [10, 13]⟩, ⟨3, false, [], [10, 13]⟩, ⟨4, false, [], [10, 13]⟩, ⟨5, false, [], [9, 10, 13]⟩, ⟨6, false, [], [9, 10, 13]⟩, ⟨7, false, [], [9, 10, 13]⟩, ⟨8, false, [], [9, 10, 13]⟩, ⟨9, true, [], [10, 13]⟩, ⟨10, true, [9], [13]⟩, ⟨11, false, [9, 10], [13]⟩, ⟨12, false, [9, 10], [13]⟩, ⟨13, true, [9, 10], []⟩] (by kernel_rfl) Inv (fun _ _ => True) (fun _ => ⟨undef, trivial⟩) H00.out ?_
  iterate 4 (apply WpI.pure; (simp only [List.getElem?_toArray, List.getElem?_cons_succ, List.getElem?_cons_zero]; rfl); (intro τ wI hA hI; go_simp; exact ⟨hI, Is.rfl'⟩); simp only [Act.put, List.setIfInBounds_toArray, List.set_cons_zero, List.set_cons_succ])
  (apply WpI.pure; (simp only [List.getElem?_toArray, List.getElem?_cons_succ, List.getElem?_cons_zero]; rfl); (intro τ wI hA hI; have hc : wI.cell? ⟨r, 1, none⟩ = some (.slice Ae R.ev.length ce) := HC1.out τ wI hI (hA.2 10 (by decide)); go_simp; exact ⟨hI, Is.rfl'⟩); simp only [Act.put, List.setIfInBounds_toArray, List.set_cons_zero, List.set_cons_succ])
  iterate 2 (apply WpI.pure; (simp only [List.getElem?_toArray, List.getElem?_cons_succ, List.getElem?_cons_zero]; rfl); (intro τ wI hA hI; go_simp; exact ⟨hI, Is.rfl'⟩); simp only [Act.put, List.setIfInBounds_toArray, List.set_cons_zero, List.set_cons_succ])
  (apply WpI.pure; (simp only [List.getElem?_toArray, List.getElem?_cons_succ, List.getElem?_cons_zero]; rfl); (intro τ wI hA hI; have h0 := hI; rw [HI.out] at h0; have h0 := h0.at0 (hA.2 9 (by decide)) (hA.2 10 (by decide)) (hA.2 13 (by decide)); have hc := HC.out; rw [← h0] at hc; clear h0; go_simp; exact ⟨hI, Is.rfl'⟩); simp only [Act.put, List.setIfInBounds_toArray, List.set_cons_zero, List.set_cons_succ])
  (apply WpI.pure; (simp only [List.getElem?_toArray, List.getElem?_cons_succ, List.getElem?_cons_zero]; rfl); (intro τ wI hA hI; go_simp; exact ⟨hI, Is.rfl'⟩); simp only [Act.put, List.setIfInBounds_toArray, List.set_cons_zero, List.set_cons_succ])
  apply WpI.effect; (simp only [List.getElem?_toArray, List.getElem?_cons_succ, List.getElem?_cons_zero]; rfl)
  · intro τ wI hA hn hI
    have h0 := hI
    rw [HI.out] at h0
    have h0 := h0.at0 hn (hA.2 10 (by decide)) (hA.2 13 (by decide))
    have HA := Lib.hid (And.intro (hA.2 10 (by decide)) (hA.2 13 (by decide)))
    subst h0
    clear hA hn hI
    go_simp
    rw [HI.out]
    exact Chain3.put1 HA.out.1 (by decide) HA.out.2 (by decide) ⟨rfl, rfl⟩
  intro v9 hv9
  clear hv9
  simp only [Act.put, List.setIfInBounds_toArray, List.set_cons_zero, List.set_cons_succ]
  apply WpI.effect; (simp only [List.getElem?_toArray, List.getElem?_cons_succ, List.getElem?_cons_zero]; rfl)
  · intro τ wI hA hn hI
    rw [HI.out] at hI ⊢
    have h9 : τ 9 = some v9 := hA.1 9 (by decide)
    have h13 : τ 13 = none := hA.2 13 (by decide)
    obtain ⟨rfl, rfl⟩ := hI.at1 h9 hn h13
    refine runs_app rfl (.tmp 20) (.tmp 25) 88 rfl 93 _ 2 24 Try.underlying88 info93 rfl (by omega) (by omega) (.slice Ae R.ev.length ce) R.ev.length (EV R.ev) rfl (HE.out.alloc _) (fun i => i = w.drew.heap.size) _ 1 [.int .i64 n, bstr bs] rfl
      (Sl.of_blk (Blk.new w.drew 93 #[.int .i64 n, bstr bs]) 2 1 1 rfl (by omega)) (by simp [Value.oneCell']) (by have := HEV.out; omega) ?_
    intro A' c' w' o1 o2 o3 _
    refine ⟨trivial, Chain3.put2 h9 (by decide) h13 (by decide) ⟨⟨_, _, rfl⟩, ((Mod.refl _ _).drew.alloc _).trans o2 (fun _ _ h => h), o1, o3.imp id (fun e => ⟨_, e, by simp⟩)⟩⟩
  intro v10 hv10
  clear hv10
  simp only [Act.put, List.setIfInBounds_toArray, List.set_cons_zero, List.set_cons_succ]
  iterate 2 (apply WpI.pure; (simp only [List.getElem?_toArray, List.getElem?_cons_succ, List.getElem?_cons_zero]; rfl); (intro τ wI hA hI; go_simp; exact ⟨hI, Is.rfl'⟩); simp only [Act.put, List.setIfInBounds_toArray, List.set_cons_zero, List.set_cons_succ])
  apply WpI.effect; (simp only [List.getElem?_toArray, List.getElem?_cons_succ, List.getElem?_cons_zero]; rfl)
  · intro τ wI hA hn hI
    have h0 := hI
    rw [HI.out] at h0
    have h9 : τ 9 = some v9 := hA.1 9 (by decide)
    have h10 : τ 10 = some v10 := hA.1 10 (by decide)
    obtain ⟨⟨A', c', rfl⟩, o1, o2, o3⟩ := h0.at2 h9 h10 hn
    have hd2 := HD.out.mod o1 (fun e => own_blk_ne HE.out HD.out (by decide) e)
    have d1 : wI.cell? ⟨r, 1, none⟩ = some ve := by rw [hd2.cell]; rfl
    have f1 := hd2.frozen 1
    have hl2 := hd2.lt
    obtain ⟨k1, k2⟩ := HH.out.push H0.out H1.out ((n : Int), bs) o1 o2 o3
    have HK := Lib.hid (And.intro k1 (And.intro k2 (And.intro h9 h10)))
    clear k1 k2 o1 o2 o3 hd2 h0 hI h9 h10 hn hA
    go_simp
    rw [HI.out]
    exact Chain3.put3 HK.out.2.2.1 (by decide) HK.out.2.2.2 (by decide) ⟨HK.out.1, HK.out.2.1⟩
  intro v13 hv13
  clear hv13
  refine WpI.done ?_
  intro wI hI
  rw [HI.out] at hI
  have HK := Lib.hid (hI.end_ (by decide) (by decide) (by decide))
  clear hI
  go_wp2_with fail
  go_ret
  exact ⟨rfl, HK.out.1, HK.out.2⟩
end Go.Proofs.Ytjdobjcbmmdjeaa
/- Contracts of stillroomref03: Read, New. -/
namespace Go.Proofs.Ytjdobjcbmmdjeaa
open Go.RowKit

theorem rread_out (w : World) (F : Nat → Prop) (r : Nat) (R : RDsk) (n : Int) (h : RefAt w F r R) (hn : ¬ (0 ≤ n ∧ n < (R.first.length : Int))) :
    Calls Try.prog 44 #[.pointer (some ⟨r, 0, none⟩), .int .i64 n] w fun e w' => e = .returned (.tuple #[bstr [], .int .i64 2]) ∧ w = w' := by
  have hh := h.has n
  rw [decide_eq_false hn] at hh
  have HH := Lib.hid hh
  clear hh h hn
  go_enter Try.func44, Try.ntmps44
  go_wp2_with fail
  refine HH.out.mono ?_
  rintro e w' ⟨rfl, rfl⟩
  go_wp2_with fail
  go_ret2
  exact ⟨rfl, rfl⟩
theorem rread_ok (w : World) (F : Nat → Prop) (r n : Nat) (R : RDsk) (h : RefAt w F r R) (hev : R.ev.length ≤ 1000000000) (hn : n < R.first.length) :
    Calls Try.prog 44 #[.pointer (some ⟨r, 0, none⟩), .int .i64 n] w fun e w' => e = .returned (.tuple #[bstr (R.get n), .int .i64 0]) ∧ w = w' := by
  have hh := h.has n
  rw [decide_eq_true ⟨by omega, by omega⟩] at hh
  have HHas := Lib.hid hh
  obtain ⟨Af, cf, Ae, ce, c0, c1, hof, hoe, hlt⟩ := h.cell
  obtain ⟨gf, cf', hfv, _⟩ := hof.form (by omega)
  simp only [Value.slice.injEq] at hfv
  obtain ⟨rfl, hx, rfl⟩ := hfv
  clear hx
  obtain ⟨s, hs⟩ : ∃ s, R.first[n]? = some s := ⟨_, List.getElem?_eq_getElem hn⟩
  have cs := hof.cells rfl n (bstr s) (by simp only [strs, List.getElem?_map, hs]; rfl)
  rw [add_lit0, Nat.zero_add] at cs
  have HG : Hid (lastEv R.ev n R.ev.length = none → R.get n = s) := fun h => by simp [RDsk.get, h, hs]
  have HG2 : Hid (∀ b, lastEv R.ev n R.ev.length = some b → R.get n = b) := fun b h => by simp [RDsk.get, h]
  obtain ⟨out, hout⟩ : ∃ out, out = R.get n := ⟨_, rfl⟩
  rw [← hout] at HG HG2 ⊢
  clear hout
  obtain ⟨L, hL⟩ : ∃ L, L = R.ev.length := ⟨_, rfl⟩
  rw [← hL] at HG HG2 c1 hoe hev
  have HEv : Hid (∀ i, i < L → ∃ b x, Ae = some ⟨b, 0, none⟩ ∧ R.ev[i]? = some x ∧ w.cell? ⟨b, i * 2, none⟩ = some (.int .i64 x.1) ∧ w.cell? ⟨b, i * 2 + 1, none⟩ = some (bstr x.2) ∧ b < w.heap.size) := by
    intro i hi
    obtain ⟨b, cc, hv, _, hb⟩ := hoe.form (by omega)
    simp only [Value.slice.injEq] at hv
    obtain ⟨rfl, hx, rfl⟩ := hv
    obtain ⟨x, hx⟩ : ∃ x, R.ev[i]? = some x := ⟨_, List.getElem?_eq_getElem (by omega)⟩
    obtain ⟨g1, g2⟩ := EV_get hx
    have q1 := hoe.cells rfl _ _ g1
    have q2 := hoe.cells rfl _ _ g2
    rw [add_lit0, Nat.zero_add] at q1 q2
    exact ⟨b, x, rfl, hx, q1, q2, hb⟩
  have hnI : (n : Int) < (R.first.length : Int) := by omega
  obtain ⟨lf, hlf⟩ : ∃ lf, lf = R.first.length := ⟨_, rfl⟩
  rw [← hlf] at hn hnI c0
  clear h hof hoe hh hs hL hlf
  go_enter Try.func44, Try.ntmps44
  go_wp2_with fail
  refine HHas.out.mono ?_
  rintro e w' ⟨rfl, rfl⟩
  have hsub : IntKind.i64.wrap ((L : Int) - 1) = (L : Int) - 1 := by rw [IntKind.wrap_i64]; omega
  go_wp2_with fail
  go_loopg [6] L (fun kq i wr => ∃ (z : Int) (j : Nat), i = .int .i64 z ∧ z = (j : Int) - 1 ∧ j ≤ L ∧ kq = j ∧ wr = w ∧ Hid (lastEv R.ev n L = lastEv R.ev n j))
  case atStart => exact ⟨_, L, rfl, rfl, Nat.le_refl _, rfl, rfl, rfl⟩
  case round =>
    obtain ⟨z, j, rfl, hz, hj, hkq, rfl, hl⟩ := hrel
    rcases j with _ | j <;> subst hkq
    · obtain rfl : z = -1 := by omega
      have := HG.out hl.out
      subst this
      clear hz
      go_wp2_with fail
      go_ret2
      exact ⟨rfl, rfl⟩
    · obtain rfl : z = (j : Int) := by omega
      clear hz
      obtain ⟨b, x, rfl, hx, q1, q2, hb⟩ := HEv.out j (by omega)
      have hjI : (j : Int) < (L : Int) := by omega
      by_cases he : x.1 = (n : Int)
      · have hg := HG2.out x.2 (by rw [hl.out]; simp [lastEv, hx, he])
        subst hg
        rw [he] at q1
        clear hx hl
        go_wp2_with fail
        go_ret2
        exact ⟨rfl, rfl⟩
      · have hbe : (x.1 == (n : Int)) = false := by simp [he]
        have hl2 : Hid (lastEv R.ev n L = lastEv R.ev n j) := by
          have e : lastEv R.ev n (j + 1) = lastEv R.ev n j := by simp [lastEv, hx, he]
          exact Lib.hid (hl.out.trans e)
        clear hx hl
        go_wp2_with fail
        go_roundg j
        case measure => omega
        case rel => exact ⟨_, j, by go_num, rfl, by omega, rfl, rfl, hl2⟩

theorem rnew_bad (k : Int) (w : World) (h : k < 1 ∨ 2048 < k) : Calls Try.prog 19 #[.int .i64 k] w fun e w' => e = .returned (.tuple #[.pointer none, .int .i64 2]) ∧ w = w' := by
  by_cases h1 : k < 1
  · clear h
    go_enter Try.func19, Try.ntmps19
    go_wp2_with fail
    go_ret2
    exact ⟨rfl, rfl⟩
  · have h2 : 2048 < k := by omega
    clear h
    go_enter Try.func19, Try.ntmps19
    go_wp2_with fail
    go_ret2
    exact ⟨rfl, rfl⟩

set_option maxRecDepth 100000 in
theorem rnew_ok (k : Nat) (w : World) (h1 : 1 ≤ k) (h2 : k ≤ 2048) : Calls Try.prog 19 #[.int .i64 k] w fun e w' => ∃ r, e = .returned (.tuple #[.pointer (some ⟨r, 0, none⟩), .int .i64 0]) ∧
    RefAt w' (fun b => w.heap.size ≤ b ∧ b < w'.heap.size) r ⟨List.replicate k (zeros 256), []⟩ ∧ Below w.heap.size w w' := by
  have n1 : ¬ (k : Int) < 1 := by omega
  have n2 : ¬ (2048 < (k : Int)) := by omega
  go_enter Try.func19, Try.ntmps19
  go_wp2_with fail
  have hb0 := Blk.new w 90 #[.slice none 0 0, .slice none 0 0]
  obtain ⟨r, hr⟩ : ∃ r, r = w.heap.size := ⟨_, rfl⟩
  go_loopg [5] k (fun kq i wr => ∃ j : Nat, i = .int .i64 j ∧ j ≤ k ∧ kq = k - j ∧ Hid (RefAt wr (fun b => w.heap.size ≤ b ∧ b < wr.heap.size) w.heap.size ⟨List.replicate j (zeros 256), []⟩ ∧ Below w.heap.size w wr))
  case atStart =>
    refine ⟨0, rfl, by omega, by omega, ?_⟩
    refine ⟨⟨_, _, ⟨Nat.le_refl _, by simp⟩, hb0, own_nil0 _ _ _, own_nil0 _ _ _, ?_, fun b hb => hb.2⟩, (Below.refl _ _).alloc (Nat.le_refl _) _⟩
    intro b hb
    simp [Value.ownBlock] at hb
  case round =>
    obtain ⟨j, rfl, hj, rfl, hb⟩ := hrel
    obtain ⟨hR, hbel⟩ := hb.out
    by_cases hlt : j < k
    · obtain ⟨Af, cf, Ae, ce, c0, c1, hof, hoe, hlr⟩ := hR.cell
      rw [List.length_replicate] at c0 hof
      obtain ⟨vf, ve, hFr, hd, _⟩ := (id hR : ∃ _, _)
      obtain ⟨wz, hz1, hz2, hzg, hzl⟩ := zero_run wr.drew
      have hz1 : (Instr.makeSlice 22 (.int .i64 256) (.int .i64 256)).run Try.prog wr.drew = .ok (.slice (some ⟨wr.heap.size, 0, none⟩) 256 256) wz := hz1
      have hz2 : (convert 22 9 (.slice (some ⟨wr.heap.size, 0, none⟩) 256 256)).run Try.prog wz = .ok (bstr (zeros 256)) wz := hz2
      have hzl : wr.heap.size < wz.heap.size := hzl
      have HR := Lib.hid hR
      have HB := Lib.hid hbel
      have H0 := Lib.hid c0
      have HF := Lib.hid hof
      have HD := Lib.hid hd
      have HZ := Lib.hid (And.intro hz1 (And.intro hz2 (And.intro hzg hzl)))
      have hjb : j ≤ 2048 := by omega
      have hwr : w.heap.size < wr.heap.size := hlr
      clear hR hbel c0 c1 hof hoe hd hz1 hz2 hzg hzl hb0
      go_upto_region 7 with fail
      try simp only [Act.put, List.setIfInBounds_toArray, List.set_cons_zero, List.set_cons_succ]
      obtain ⟨Inv, hInv⟩ : ∃ Inv : Done → World → Prop, Inv = Chain4 5 7 8 11 (fun wI => wI = wr.drew) (fun x wI => x = .slice (some ⟨wr.heap.size, 0, none⟩) 256 256 ∧ wI = wz) (fun x y wI => y = .slice (some ⟨wz.heap.size, 0, none⟩) 1 1 ∧ wI = wz.alloc (.cells #[bstr (zeros 256)] 9))
        (fun x y z wI => (∃ A' c', z = .slice A' (j + 1) c') ∧ Mod (fun i => (Value.slice Af j cf).ownBlock = some i) wr wI ∧ wI.ownsRow 0 9 1 z (j + 1) (strs (List.replicate j (zeros 256)) ++ [bstr (zeros 256)]) ∧ (z.ownBlock = (Value.slice Af j cf).ownBlock ∨ ∃ b, z.ownBlock = some b ∧ wr.heap.size ≤ b))
        (fun x y z u wI => RefAt wI (fun b => w.heap.size ≤ b ∧ b < wI.heap.size) w.heap.size ⟨List.replicate (j + 1) (zeros 256), []⟩ ∧ Below w.heap.size w wI) := ⟨_, rfl⟩
      have HI := Lib.hid hInv
      have hc1 : ∀ τ wI, Inv τ wI → τ 8 = none → Now (fun wI => wI.cell? ⟨w.heap.size, 0, none⟩ = some (.slice Af j cf)) wI := by
        intro τ wI h h8
        rw [hInv] at h
        have h2 := HD.out.cell 0
        rw [H0.out] at h2
        rcases h.upto2 h8 with rfl | ⟨x, rfl, rfl⟩ | ⟨x, y, rfl, rfl⟩
        · exact H0.out
        · exact ((HD.out.drew.grown HZ.out.2.2.1 (by simp)).cell 0).trans h2.symm
        · exact (((HD.out.drew.grown HZ.out.2.2.1 (by simp)).alloc (.cells #[bstr (zeros 256)] 9)).cell 0).trans h2.symm
      have HC1 := Lib.hid hc1
      have H00 : Hid (Inv Done.none wr.drew) := by rw [hInv]; exact Chain4.start rfl
      clear hInv hc1
      refine wp_region_inv (by kernel_rfl) [⟨0, false, [], [11]⟩, ⟨1, false, [], [8, 11]⟩, ⟨2, false, [], [8, 11]⟩, ⟨3, false, [], [8, 11]⟩, ⟨4, false, [], [8, 11]⟩, ⟨5, true, [], [7, 8, 11]⟩, ⟨6, false, [5], [7, 8, 11]⟩, ⟨7, true, [5], [8, 11]⟩, ⟨8, true, [5, 7], [11]⟩, ⟨9, false, [5, 7, 8], [11]⟩, ⟨10, false, [5, 7, 8], [11]⟩, ⟨11, true, [5, 7, 8], []⟩] (by kernel_rfl) Inv (fun _ _ => True) (fun _ => ⟨undef, trivial⟩) H00.out ?_
      iterate 4 (apply WpI.pure; (simp only [List.getElem?_toArray, List.getElem?_cons_succ, List.getElem?_cons_zero]; rfl); (intro τ wI hA hI; go_simp; exact ⟨hI, Is.rfl'⟩); simp only [Act.put, List.setIfInBounds_toArray, List.set_cons_zero, List.set_cons_succ])
      (apply WpI.pure; (simp only [List.getElem?_toArray, List.getElem?_cons_succ, List.getElem?_cons_zero]; rfl); (intro τ wI hA hI; have hc : wI.cell? ⟨w.heap.size, 0, none⟩ = some (.slice Af j cf) := HC1.out τ wI hI (hA.2 8 (by decide)); go_simp; exact ⟨hI, Is.rfl'⟩); simp only [Act.put, List.setIfInBounds_toArray, List.set_cons_zero, List.set_cons_succ])
      apply WpI.effect; (simp only [List.getElem?_toArray, List.getElem?_cons_succ, List.getElem?_cons_zero]; rfl)
      · intro τ wI hA hn hI
        have h0 := hI
        rw [HI.out] at h0
        have h0 := h0.at0 hn (hA.2 7 (by decide)) (hA.2 8 (by decide)) (hA.2 11 (by decide))
        have HA := Lib.hid (And.intro (hA.2 7 (by decide)) (And.intro (hA.2 8 (by decide)) (hA.2 11 (by decide))))
        subst h0
        have hz1 := HZ.out.1
        clear hA hn hI
        go_simp
        rw [HI.out]
        exact Chain4.put1 HA.out.1 (by decide) HA.out.2.1 (by decide) HA.out.2.2 (by decide) ⟨rfl, rfl⟩
      intro v5 hv5
      clear hv5
      simp only [Act.put, List.setIfInBounds_toArray, List.set_cons_zero, List.set_cons_succ]
      (apply WpI.pure; (simp only [List.getElem?_toArray, List.getElem?_cons_succ, List.getElem?_cons_zero]; rfl); (intro τ wI hA hI; have h0 := hI; rw [HI.out] at h0; have h5 : τ 5 = some v5 := hA.1 5 (by decide); obtain ⟨rfl, rfl⟩ := h0.at1 h5 (hA.2 7 (by decide)) (hA.2 8 (by decide)) (hA.2 11 (by decide)); have hc := HZ.out.2.1; clear h5; go_simp; exact ⟨hI, Is.rfl'⟩); simp only [Act.put, List.setIfInBounds_toArray, List.set_cons_zero, List.set_cons_succ])
      apply WpI.effect; (simp only [List.getElem?_toArray, List.getElem?_cons_succ, List.getElem?_cons_zero]; rfl)
      · intro τ wI hA hn hI
        have h0 := hI
        rw [HI.out] at h0
        have h5 : τ 5 = some v5 := hA.1 5 (by decide)
        have HA := Lib.hid (And.intro h5 (And.intro (hA.2 8 (by decide)) (hA.2 11 (by decide))))
        obtain ⟨rfl, rfl⟩ := h0.at1 h5 hn (hA.2 8 (by decide)) (hA.2 11 (by decide))
        clear hA hn hI h5
        go_simp
        rw [HI.out]
        exact Chain4.put2 HA.out.1 (by decide) HA.out.2.1 (by decide) HA.out.2.2 (by decide) ⟨rfl, rfl⟩
      intro v7 hv7
      clear hv7
      simp only [Act.put, List.setIfInBounds_toArray, List.set_cons_zero, List.set_cons_succ]
      apply WpI.effect; (simp only [List.getElem?_toArray, List.getElem?_cons_succ, List.getElem?_cons_zero]; rfl)
      · intro τ wI hA hn hI
        rw [HI.out] at hI ⊢
        have h5 : τ 5 = some v5 := hA.1 5 (by decide)
        have h7 : τ 7 = some v7 := hA.1 7 (by decide)
        have h11 : τ 11 = none := hA.2 11 (by decide)
        obtain ⟨rfl, rfl⟩ := hI.at2 h5 h7 hn h11
        have hmz : Mod (fun i => (Value.slice Af j cf).ownBlock = some i) wr (wz.alloc (.cells #[bstr (zeros 256)] 9)) := ((Mod.refl _ _).drew.grown HZ.out.2.2.1 (by simp)).alloc _
        refine runs_app rfl (.tmp 23) (.tmp 26) 51 rfl 9 _ 1 16 Try.underlying51 info9 rfl (by omega) (by omega) (.slice Af j cf) j (strs (List.replicate j (zeros 256))) rfl
          (own_below HF.out ((Below.refl _ _).drew.grown HZ.out.2.2.1 (Nat.le_refl _) (by simp) |>.alloc (Nat.le_of_lt HZ.out.2.2.2) _)) (fun i => i = wz.heap.size) _ 1 [bstr (zeros 256)] rfl
          (Sl.of_blk (Blk.new wz 9 #[bstr (zeros 256)]) 1 1 1 rfl (by omega)) (by simp [Value.oneCell']) (by omega) ?_
        intro A' c' w' o1 o2 o3 _
        refine ⟨trivial, Chain4.put3 h5 (by decide) h7 (by decide) h11 (by decide) ⟨⟨_, _, rfl⟩, hmz.trans o2 (fun _ _ h => h), o1, o3.imp id (fun e => ⟨_, e, ?_⟩)⟩⟩
        have := hmz.size
        exact this
      intro v8 hv8
      clear hv8
      simp only [Act.put, List.setIfInBounds_toArray, List.set_cons_zero, List.set_cons_succ]
      iterate 2 (apply WpI.pure; (simp only [List.getElem?_toArray, List.getElem?_cons_succ, List.getElem?_cons_zero]; rfl); (intro τ wI hA hI; go_simp; exact ⟨hI, Is.rfl'⟩); simp only [Act.put, List.setIfInBounds_toArray, List.set_cons_zero, List.set_cons_succ])
      apply WpI.effect; (simp only [List.getElem?_toArray, List.getElem?_cons_succ, List.getElem?_cons_zero]; rfl)
      · intro τ wI hA hn hI
        have h0 := hI
        rw [HI.out] at h0
        have h5 : τ 5 = some v5 := hA.1 5 (by decide)
        have h7 : τ 7 = some v7 := hA.1 7 (by decide)
        have h8 : τ 8 = some v8 := hA.1 8 (by decide)
        obtain ⟨⟨A', c', rfl⟩, o1, o2, o3⟩ := h0.at3 h5 h7 h8 hn
        have hd2 := HD.out.mod o1 (fun e => own_blk_ne HF.out HD.out (by decide) e)
        have d1 : wI.cell? ⟨w.heap.size, 0, none⟩ = some vf := by rw [hd2.cell]; rfl
        have f1 := hd2.frozen 0
        have hl2 := hd2.lt
        have HK := Lib.hid (And.intro o1 (And.intro o2 (And.intro o3 (And.intro hd2 (And.intro h5 (And.intro h7 h8))))))
        clear o1 o2 o3 hd2 h0 hI h5 h7 h8 hn hA
        go_simp
        rw [HI.out]
        obtain ⟨o1, o2, o3, hd2, h5, h7, h8⟩ := HK.out
        refine Chain4.put4 h5 (by decide) h7 (by decide) h8 (by decide) ?_
        have e1 : wr.cell? ⟨w.heap.size, 1, none⟩ = some ve := by rw [HD.out.cell]; rfl
        obtain ⟨k1, k2⟩ := HR.out.pushF H0.out e1 (zeros 256) o1 (by rw [List.length_replicate]; exact o2) o3
        refine ⟨?_, HB.out.trans (k2.below HB.out.size (fun i hi => hi.1))⟩
        rw [List.replicate_succ']
        have hs := k2.size
        refine k1.mono (fun b hb => ?_) (fun b hb => hb.2)
        rcases hb with hb | hb <;> omega
      intro v11 hv11
      clear hv11
      refine WpI.done ?_
      intro wI hI
      rw [HI.out] at hI
      have HK := Lib.hid (hI.end_ (by decide) (by decide) (by decide) (by decide) (by decide) (by decide))
      clear hI
      go_wp2_with fail
      go_roundg (k - (j + 1))
      case measure => omega
      case rel => exact ⟨j + 1, by go_num, by omega, rfl, HK.out⟩
    · obtain rfl : j = k := by omega
      clear hR hbel
      go_wp2_with fail
      go_ret2
      exact ⟨_, rfl, hb.out.1, hb.out.2⟩
end Go.Proofs.Ytjdobjcbmmdjeaa
/- Contracts of stillroomref03: After. -/
namespace Go.Proofs.Ytjdobjcbmmdjeaa
open Go.RowKit

def lastR (ev : List (Int × List UInt8)) : Nat → Nat
  | 0 => 0
  | i + 1 => match ev[i]? with | some x => if x.1 < 0 then i else lastR ev i | none => lastR ev i
/-- is what was written at event i there, and how many of keep are used up -/
def refPick (last i : Nat) (keep : List Bool) (k : Nat) : Bool × Nat := if i < last then (true, k) else ((keep[k]?).getD false, k + 1)
def refStep (last i : Nat) (keep : List Bool) (x : Int × List UInt8) (st : List (List UInt8) × Nat) : List (List UInt8) × Nat :=
  if x.1 < 0 then st else (if (refPick last i keep st.2).1 then st.1.set x.1.toNat x.2 else st.1, (refPick last i keep st.2).2)
def refK (R : RDsk) (last : Nat) (keep : List Bool) : Nat → List (List UInt8) × Nat
  | 0 => (R.first, 0)
  | i + 1 => match R.ev[i]? with | some x => refStep last i keep x (refK R last keep i) | none => refK R last keep i
def RDsk.loss (R : RDsk) (n : Nat) (keep : List Bool) : List (List UInt8) := (refK R (lastR R.ev n) keep n).1
theorem refK_length (R : RDsk) (last : Nat) (keep : List Bool) : ∀ i, (refK R last keep i).1.length = R.first.length := by
  intro i
  induction i with
  | zero => rfl
  | succ i ih =>
    unfold refK
    split
    · unfold refStep
      split
      · exact ih
      · dsimp only; split
        · rw [List.length_set]; exact ih
        · exact ih
    · exact ih
theorem refK_le (R : RDsk) (last : Nat) (keep : List Bool) : ∀ i, (refK R last keep i).2 ≤ i := by
  intro i
  induction i with
  | zero => exact Nat.le_refl _
  | succ i ih =>
    unfold refK
    split
    · unfold refStep refPick
      split
      · omega
      · dsimp only; split <;> dsimp only <;> omega
    · omega
/-- writes lie within the disk -/
def RDsk.Ok (R : RDsk) : Prop := ∀ (i : Nat) (x : Int × List UInt8), R.ev[i]? = some x → x.1 < 0 ∨ ∃ n : Nat, x.1 = (n : Int) ∧ n < R.first.length

theorem rafter_out (w : World) (F : Nat → Prop) (r : Nat) (R : RDsk) (n : Int) (v : Value) (h : RefAt w F r R) (hn : n < 0 ∨ (R.ev.length : Int) < n) :
    Calls Try.prog 23 #[.pointer (some ⟨r, 0, none⟩), .int .i64 n, v] w fun e w' => e = .returned (.tuple #[.pointer none, .int .i64 2]) ∧ w = w' := by
  obtain ⟨Af, cf, Ae, ce, c0, c1, _, _, hlt⟩ := h.cell
  clear h
  by_cases h1 : n < 0
  · clear hn
    go_enter Try.func23, Try.ntmps23
    go_wp2_with fail
    go_ret2
    exact ⟨rfl, rfl⟩
  · have h2 : (R.ev.length : Int) < n := by omega
    clear hn
    go_enter Try.func23, Try.ntmps23
    go_wp2_with fail
    go_ret2
    exact ⟨rfl, rfl⟩

set_option maxRecDepth 100000 in
set_option maxHeartbeats 4000000 in
theorem rafter_ok (w : World) (F G : Nat → Prop) (r n : Nat) (R : RDsk) (A : Option Addr) (mk ck : Nat) (keep : List Bool) (h : RefAt w F r R) (hok : R.Ok) (hn : n ≤ R.ev.length) (hev : R.ev.length ≤ 1000000000) (hf1 : R.first.length ≤ 1000000)
    (hkeep : Sl w G 1 (.slice A mk ck) mk (BL keep)) (hmk : mk ≤ 140737488351232) :
    Calls Try.prog 23 #[.pointer (some ⟨r, 0, none⟩), .int .i64 n, .slice A mk ck] w fun e w' => ∃ o, e = .returned (.tuple #[.pointer (some ⟨o, 0, none⟩), .int .i64 0]) ∧
      RefAt w' (fun b => w.heap.size ≤ b ∧ b < w'.heap.size) o ⟨R.loss n keep, []⟩ ∧ Below w.heap.size w w' := by
  obtain ⟨Af, cf, Ae, ce, c0, c1, hof, hoe, hlt⟩ := h.cell
  have n0 : ¬ (n : Int) < 0 := by omega
  have n1 : ¬ ((R.ev.length : Int) < n) := by omega
  have HH := Lib.hid h
  have HK := Lib.hid hkeep
  have HF := Lib.hid hof
  have HE := Lib.hid hoe
  have HB := Lib.hid (And.intro hn (And.intro hev (And.intro hf1 hmk)))
  have HO := Lib.hid hok
  clear h hkeep hof hoe hn hev hf1 hmk hok
  go_enter Try.func23, Try.ntmps23
  go_wp2_with (at_builtin
               refine wpList_app _ rfl (.tmp 25) (.tmp 29) 51 rfl 9 _ 1 16 Try.underlying51 info9 rfl (by omega) (by omega) (.slice (some ⟨w.heap.size, 0, none⟩) 0 0) 0 [] rfl
                 ?_ _ (.slice Af R.first.length cf) R.first.length (strs R.first) rfl (Sl.of_own (HF.out.alloc _)) (by intro u hu; obtain ⟨b, _, rfl⟩ := List.mem_map.1 hu; rfl) (by have := HB.out.2.2.1; omega) ?_
               rotate_left 1
               intro A1 c1' w1 ho1 hg1 hat1 hnil
               clear hnil
               have hb1 : Below w.heap.size w w1 := ((Below.refl _ _).alloc (Nat.le_refl _) _).grown hg1 (by simp) (by simp [Value.ownBlock])
               have hfr : ∀ b, (Value.slice A1 (0 + R.first.length) c1').ownBlock = some b → w.heap.size ≤ b := by
                 intro b hb
                 rcases hat1 with e | e <;> rw [e] at hb <;> simp [Value.ownBlock] at hb <;> omega
               have H1 := Lib.hid (And.intro ho1 (And.intro hb1 hfr))
               clear ho1 hg1 hat1 hb1 hfr)
  case refine_1 => simpa using own_of_blk (cs := []) (Blk.new w 9 #[]) 1 0 rfl (by simp [maxLen])
  rw [Nat.zero_add] at H1
  obtain ⟨o, ho⟩ : ∃ o, o = w1.heap.size := ⟨_, rfl⟩
  have hst : RefAt (w1.alloc (.cells #[.slice A1 R.first.length c1', .slice none 0 0] 90)) (fun b => w.heap.size ≤ b ∧ b < (w1.alloc (.cells #[.slice A1 R.first.length c1', .slice none 0 0] 90)).heap.size) o ⟨R.first, []⟩ := by
    obtain ⟨k1, k2, k3⟩ := H1.out
    simp only [List.nil_append] at k1
    have hsz := k2.size
    subst ho
    refine ⟨_, _, ⟨hsz, by simp⟩, Blk.new w1 90 _, k1.alloc _, own_nil0 _ _ _, fun b hb => ?_, fun b hb => hb.2⟩
    rcases hb with hb | hb
    · refine ⟨k3 b hb, ?_⟩
      have := own_lt' k1 hb
      simp only [World.size_alloc]; omega
    · simp [Value.ownBlock] at hb
  have HST := Lib.hid (And.intro hst (H1.out.2.1.alloc (H1.out.2.1.size) (.cells #[.slice A1 R.first.length c1', .slice none 0 0] 90)))
  rw [← ho]
  obtain ⟨w2, hw2⟩ : ∃ w2, w2 = w1.alloc (.cells #[.slice A1 R.first.length c1', .slice none 0 0] 90) := ⟨_, rfl⟩
  rw [← hw2] at HST ⊢
  clear hw2 hst H1 ho
  have HEv : Hid (∀ wx, Below w.heap.size w wx → wx.cell? ⟨r, 1, none⟩ = some (.slice Ae R.ev.length ce) ∧ r < wx.heap.size ∧ ∀ i, i < R.ev.length → ∃ b x, Ae = some ⟨b, 0, none⟩ ∧ R.ev[i]? = some x ∧ wx.cell? ⟨b, i * 2, none⟩ = some (.int .i64 x.1) ∧ wx.cell? ⟨b, i * 2 + 1, none⟩ = some (bstr x.2) ∧ b < wx.heap.size) := by
    intro wx hbx
    have hsz := hbx.size
    refine ⟨(hbx.cell (p := ⟨r, 1, none⟩) hlt).trans c1, by omega, fun i hi => ?_⟩
    have hoe := own_below HE.out hbx
    obtain ⟨b, cc, hv, _, hb⟩ := hoe.form (by omega)
    simp only [Value.slice.injEq] at hv
    obtain ⟨rfl, hx, rfl⟩ := hv
    obtain ⟨x, hx⟩ : ∃ x, R.ev[i]? = some x := ⟨_, List.getElem?_eq_getElem (by omega)⟩
    obtain ⟨g1, g2⟩ := EV_get hx
    have q1 := hoe.cells rfl _ _ g1
    have q2 := hoe.cells rfl _ _ g2
    rw [add_lit0, Nat.zero_add] at q1 q2
    exact ⟨b, x, rfl, hx, q1, q2, hb⟩
  obtain ⟨L, hL⟩ : ∃ L, L = R.ev.length := ⟨_, rfl⟩
  rw [← hL] at HEv HB
  have hnL : n ≤ L := HB.out.1
  have hLb : L ≤ 1000000000 := HB.out.2.1
  clear c0 c1 n0 n1 HE HF hL
  go_wp2_with fail
  go_loopg [9, 10] n (fun kq lv i wr => ∃ j : Nat, i = .int .i64 j ∧ j ≤ n ∧ kq = n - j ∧ lv = .int .i64 (lastR R.ev j) ∧ wr = w2)
  case atStart => exact ⟨0, rfl, by omega, rfl, rfl, rfl⟩
  case round =>
    obtain ⟨j, rfl, hj, rfl, rfl, rfl⟩ := hrel
    by_cases hlt1 : j < n
    · obtain ⟨e1, hrl, hget⟩ := HEv.out wr HST.out.2
      obtain ⟨b, x, hAe, hx, q1, q2, hb⟩ := hget j (by omega)
      subst hAe
      have hjL : j < L := by omega
      have hjI : (j : Int) < (L : Int) := by omega
      by_cases hneg : x.1 < 0
      · have HL : Hid (lastR R.ev (j + 1) = j) := by
          have e : lastR R.ev (j + 1) = j := by simp [lastR, hx, hneg]
          exact e
        clear hget hx
        go_wp2_with fail
        go_roundg (n - (j + 1))
        case measure => omega
        case rel => exact ⟨j + 1, by go_num, by omega, rfl, by rw [HL.out], rfl⟩
      · have HL : Hid (lastR R.ev (j + 1) = lastR R.ev j) := by
          have e : lastR R.ev (j + 1) = lastR R.ev j := by simp [lastR, hx, hneg]
          exact e
        clear hget hx
        go_wp2_with fail
        go_roundg (n - (j + 1))
        case measure => omega
        case rel => exact ⟨j + 1, by go_num, by omega, rfl, by rw [HL.out], rfl⟩
    · obtain rfl : j = n := by omega
      obtain ⟨L0, hL0⟩ : ∃ L0, L0 = lastR R.ev j := ⟨_, rfl⟩
      rw [← hL0]
      have HL0 := Lib.hid hL0
      clear hL0
      go_wp2_with fail
      go_loopg [11, 12] j (fun kq kv i wq => ∃ (q : Nat) (F2 : Nat → Prop), i = .int .i64 q ∧ q ≤ j ∧ kq = j - q ∧ kv = .int .i64 ((refK R L0 keep q).2 : Nat) ∧ Hid (RefAt wq F2 o ⟨(refK R L0 keep q).1, []⟩ ∧ (∀ b, F2 b → w.heap.size ≤ b)) ∧ Hid (Below w.heap.size w wq))
      case atStart => exact ⟨0, _, rfl, by omega, rfl, rfl, Lib.hid ⟨HST.out.1, fun b hb => hb.1⟩, HST.out.2⟩
      case round =>
        obtain ⟨q, F2, rfl, hq, rfl, rfl, hR, hB⟩ := hrel
        by_cases hlt2 : q < j
        · obtain ⟨e1, hrl, hget⟩ := HEv.out wr hB.out
          obtain ⟨b, x, hAe, hx, q1, q2, hb⟩ := hget q (by omega)
          subst hAe
          have hqL : q < L := by omega
          have hqI : (q : Int) < (L : Int) := by omega
          have HS : Hid (refK R L0 keep (q + 1) = refStep L0 q keep x (refK R L0 keep q)) := by
            have e : refK R L0 keep (q + 1) = refStep L0 q keep x (refK R L0 keep q) := by simp only [refK, hx]
            exact e
          have HX := Lib.hid hx
          clear hget hx
          by_cases hneg : x.1 < 0
          · have HS2 : Hid (refK R L0 keep (q + 1) = refK R L0 keep q) := by
              have e : refStep L0 q keep x (refK R L0 keep q) = refK R L0 keep q := by simp [refStep, hneg]
              exact Lib.hid (HS.out.trans e)
            go_wp2_with fail
            go_roundg (j - (q + 1))
            case measure => omega
            case rel => exact ⟨q + 1, F2, by go_num, by omega, rfl, by rw [HS2.out], by rw [HS2.out]; exact hR, hB⟩
          · obtain ⟨nn, hnn, hnl⟩ : ∃ nn : Nat, x.1 = (nn : Int) ∧ nn < R.first.length := (HO.out q x HX.out).resolve_left hneg
            obtain ⟨xn, xb⟩ := x
            simp only at hnn q1 q2 hneg
            subst hnn
            obtain ⟨st, hst⟩ : ∃ st, st = refK R L0 keep q := ⟨_, rfl⟩
            rw [← hst] at hR HS ⊢
            have hkq : st.2 ≤ q := by rw [hst]; exact refK_le _ _ _ _
            have hsl : st.1.length = R.first.length := by rw [hst]; exact refK_length _ _ _ _
            clear hst
            obtain ⟨s1, kk⟩ := st
            simp only at hkq hsl hR ⊢
            go_upto_if 66 with fail
            go_cut [11, 13] (fun kv sv wx => wx = wr ∧ ∃ (k2 : Nat) (s : Bool), kv = .int .i64 k2 ∧ sv = .bool s ∧ Hid (refPick L0 q keep kk = (s, k2)))
            case first =>
              by_cases hql : q < L0
              · have hqi : (q : Int) < (L0 : Int) := by omega
                have hqd : decide (q < L0) = true := by simp [hql]
                have HP : Hid (refPick L0 q keep kk = (true, kk)) := by
                  have e : refPick L0 q keep kk = (true, kk) := by simp [refPick, hql]
                  exact e
                simp only [hqd, Bool.not_true]
                go_wp2_with fail
                go_meet
                exact ⟨rfl, kk, true, rfl, rfl, HP⟩
              · have hqi : ¬ (q : Int) < (L0 : Int) := by omega
                have hqd : decide (q < L0) = false := by simp [hql]
                simp only [hqd, Bool.not_false]
                have hk1 : IntKind.i64.wrap ((kk : Int) + 1) = ((kk + 1 : Nat) : Int) := by rw [IntKind.wrap_i64]; omega
                by_cases hkm : kk < mk
                · obtain ⟨gk, ok, hA, hc⟩ : ∃ gk ok, A = some ⟨gk, ok, none⟩ ∧ ∃ bb, keep[kk]? = some bb ∧ wr.cell? ⟨gk, ok + kk, none⟩ = some (.bool bb) := by
                    obtain ⟨hkl, A', c', hv, _, hrd⟩ := HK.out
                    simp only [Value.slice.injEq] at hv
                    obtain ⟨rfl, _, rfl⟩ := hv
                    obtain ⟨ad, hA, hF, hc⟩ := hrd (by omega)
                    have hkl2 : keep.length = mk := by simpa [BL] using hkl
                    have hb : keep[kk]? = some (keep[kk]'(by omega)) := List.getElem?_eq_getElem (by omega)
                    have h3 := hc kk (.bool (keep[kk]'(by omega))) (by simp [BL, hb])
                    obtain ⟨bb, oo, ss⟩ := ad
                    have hs : ss = none := by
                      have := hc 0 (.bool (keep[0]'(by omega))) (by simp [BL])
                      simpa [Addr.add] using World.cell?_spot this
                    subst hs
                    rw [add_lit0] at h3
                    have hbl : bb < w.heap.size := World.block_lt_of_cell? _ _ h3
                    exact ⟨bb, oo, hA, _, hb, (hB.out.cell (p := ⟨bb, _, none⟩) hbl).trans h3⟩
                  obtain ⟨bb, hkb, hcell⟩ := hc
                  subst hA
                  have hki : (kk : Int) < (mk : Int) := by omega
                  have hkd : decide (kk < mk) = true := by simp [hkm]
                  have HP : Hid (refPick L0 q keep kk = (bb, kk + 1)) := by
                    have e : refPick L0 q keep kk = (bb, kk + 1) := by simp [refPick, hql, hkb]
                    exact e
                  have hgl : gk < wr.heap.size := World.block_lt_of_cell? _ _ hcell
                  clear hkb
                  go_wp2_with fail
                  all_goals go_meet
                  all_goals exact ⟨rfl, kk + 1, _, by go_num, rfl, HP⟩
                · have hki : ¬ (kk : Int) < (mk : Int) := by omega
                  have hkd : decide (kk < mk) = false := by simp [hkm]
                  have HP : Hid (refPick L0 q keep kk = (false, kk + 1)) := by
                    have hkl : keep.length = mk := by have := HK.out.1; simpa [BL] using this
                    have e : refPick L0 q keep kk = (false, kk + 1) := by simp [refPick, hql, List.getElem?_eq_none (show keep.length ≤ kk by omega)]
                    exact e
                  go_wp2_with fail
                  go_meet
                  exact ⟨rfl, kk + 1, false, by go_num, rfl, HP⟩
            case rest =>
              obtain ⟨rfl, k2, s, rfl, rfl, hP⟩ := hcut
              cases s
              · have HS2 : Hid (refK R L0 keep (q + 1) = (s1, k2)) := by
                  have e : refStep L0 q keep ((nn : Int), xb) (s1, kk) = (s1, k2) := by rw [refStep, if_neg hneg]; simp [hP.out]
                  exact Lib.hid (HS.out.trans e)
                go_wp2_with fail
                go_roundg (j - (q + 1))
                case measure => omega
                case rel => exact ⟨q + 1, F2, by go_num, by omega, rfl, by rw [HS2.out], by rw [HS2.out]; exact hR, hB⟩
              · have HS2 : Hid (refK R L0 keep (q + 1) = (s1.set nn xb, k2)) := by
                  have e : refStep L0 q keep ((nn : Int), xb) (s1, kk) = (s1.set nn xb, k2) := by rw [refStep, if_neg hneg]; simp [hP.out]
                  exact Lib.hid (HS.out.trans e)
                obtain ⟨Af2, cf2, Ae2, ce2, d0, d1, hof2, hoe2, hlo⟩ := hR.out.1.cell
                simp only at d0 hof2
                obtain ⟨gf, cf', hfv, _, hgfl⟩ := hof2.form (by omega)
                simp only [Value.slice.injEq] at hfv
                obtain ⟨rfl, hx, rfl⟩ := hfv
                clear hx d1
                have hni : (nn : Int) < (s1.length : Int) := by omega
                obtain ⟨l1, hl1⟩ : ∃ l1, l1 = s1.length := ⟨_, rfl⟩
                rw [← hl1] at d0 hni
                have hn1 : nn < l1 := by omega
                have HOF := Lib.hid hof2
                have HL1 := Lib.hid hl1
                have HSL := Lib.hid hsl
                have HDR := Lib.hid (HEv.out wc.drew hB.out.drew)
                have d0d : wc.drew.cell? ⟨o, 0, none⟩ = some (.slice (some ⟨gf, 0, none⟩) l1 cf2) := d0
                have e1d : wc.drew.cell? ⟨r, 1, none⟩ = some (.slice (some ⟨b, 0, none⟩) L ce) := e1
                have q1d : wc.drew.cell? ⟨b, q * 2, none⟩ = some (.int .i64 nn) := q1
                have q2d : wc.drew.cell? ⟨b, q * 2 + 1, none⟩ = some (bstr xb) := q2
                obtain ⟨s0, hs0⟩ : ∃ s0, s1[nn]? = some s0 := ⟨_, List.getElem?_eq_getElem (by omega)⟩
                have cs : wc.drew.cell? ⟨gf, nn, none⟩ = some (bstr s0) := by
                  have := hof2.cells rfl nn (bstr s0) (by simp only [strs, List.getElem?_map, hs0]; rfl)
                  rw [add_lit0, Nat.zero_add] at this
                  exact this
                have fz : wc.drew.frozen? ⟨gf, nn, none⟩ = false := hof2.frozenAt nn
                clear hof2 hoe2 hl1 hsl hs0 d0 e1 q1 q2
                go_upto_region 20 with fail
                try simp only [Act.put, List.setIfInBounds_toArray, List.set_cons_zero, List.set_cons_succ]
                obtain ⟨Inv, hInv⟩ : ∃ Inv : Done → World → Prop, Inv = Chain1 21 (fun wI => wI = wc.drew) (fun x wI => wI = wc.drew.setCell ⟨gf, nn, none⟩ (bstr xb)) := ⟨_, rfl⟩
                have HI := Lib.hid hInv
                have H00 : Hid (Inv Done.none wc.drew) := by rw [hInv]; exact Chain1.start rfl
                clear hInv
                refine wp_region_inv (by kernel_rfl) [⟨0, false, [], [21]⟩, ⟨1, false, [], [21]⟩, ⟨2, false, [], [21]⟩, ⟨3, false, [], [21]⟩, ⟨4, false, [], [21]⟩, ⟨5, false, [], [21]⟩, ⟨6, false, [], [21]⟩, ⟨7, false, [], [21]⟩, ⟨8, false, [], [21]⟩, ⟨9, false, [], [21]⟩, ⟨10, false, [], [21]⟩, ⟨11, false, [], [21]⟩, ⟨12, false, [], [21]⟩, ⟨13, false, [], [21]⟩, ⟨14, false, [], [21]⟩, ⟨15, false, [], [21]⟩, ⟨16, false, [], [21]⟩, ⟨17, false, [], [21]⟩, ⟨18, false, [], [21]⟩, ⟨19, false, [], [21]⟩, ⟨20, false, [], [21]⟩, ⟨21, true, [], []⟩] (by kernel_rfl) Inv (fun _ _ => True) (fun _ => ⟨undef, trivial⟩) H00.out ?_
                iterate 21 (apply WpI.pure; (simp only [List.getElem?_toArray, List.getElem?_cons_succ, List.getElem?_cons_zero]; rfl); (intro τ wI hA hI; have h0 := hI; rw [HI.out] at h0; have h0 := h0.at0 (hA.2 21 (by decide)); subst h0; clear hA; go_simp; exact ⟨hI, Is.rfl'⟩); simp only [Act.put, List.setIfInBounds_toArray, List.set_cons_zero, List.set_cons_succ])
                apply WpI.effect; (simp only [List.getElem?_toArray, List.getElem?_cons_succ, List.getElem?_cons_zero]; rfl)
                · intro τ wI hA hn hI
                  have h0 := hI
                  rw [HI.out] at h0
                  have h0 := h0.at0 hn
                  subst h0
                  clear hA hn hI
                  go_simp
                  rw [HI.out]
                  exact Chain1.put1 rfl
                intro v21 hv21
                clear hv21
                refine WpI.done ?_
                intro wI hI
                rw [HI.out] at hI
                have hI := hI.end_
                subst hI
                have hRn : Hid (RefAt (wc.drew.setCell ⟨gf, nn, none⟩ (bstr xb)) F2 o ⟨s1.set nn xb, []⟩ ∧ Below w.heap.size w (wc.drew.setCell ⟨gf, nn, none⟩ (bstr xb))) := by
                  obtain ⟨k1, k2⟩ := hR.out.1.drew.setF (g := gf) (c := cf2) (by rw [← HL1.out]; exact d0d) nn xb
                  exact Lib.hid ⟨k1, hB.out.drew.trans (k2.below hB.out.drew.size hR.out.2)⟩
                clear hB HDR cs fz d0d e1d q1d q2d HOF
                have hFb := Lib.hid hR.out.2
                clear hR
                go_wp2_with fail
                go_roundg (j - (q + 1))
                case measure => omega
                case rel => exact ⟨q + 1, F2, by go_num, by omega, rfl, by rw [HS2.out], by rw [HS2.out]; exact Lib.hid ⟨hRn.out.1, hFb.out⟩, hRn.out.2⟩
        · obtain rfl : q = j := by omega
          have HE2 : Hid (R.loss q keep = (refK R L0 keep q).1) := by
            have e : R.loss q keep = (refK R L0 keep q).1 := by unfold RDsk.loss; rw [HL0.out]
            exact e
          go_wp2_with fail
          go_ret2
          refine ⟨o, rfl, ?_, hB.out⟩
          rw [HE2.out]
          have hlt := fun b => hR.out.1.lt (b := b)
          exact hR.out.1.mono (fun b hb => ⟨hR.out.2 b hb, hlt b hb⟩) (fun b hb => hb.2)
end Go.Proofs.Ytjdobjcbmmdjeaa
