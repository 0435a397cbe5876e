/- WalWhole: the memory at the loop's start. -/
import Derived.Test.YtjdobjcbmmdjeaaP6
namespace Go.Proofs.Ytjdobjcbmmdjeaa
open Go.RowKit

theorem at_fold2 (a : Int) (j : Nat) (hj : j ≤ 1000000) : ∃ n : Nat, n ≤ j ∧ (wrap64 (wrap64 (a.tmod ((j : Int) + 1) + j) + 1)).tmod ((j : Int) + 1) = (n : Int) := by
  have h1 := Int.lt_tmod_of_pos a (show 0 < (j : Int) + 1 by omega)
  have h2 := Int.tmod_lt_of_pos a (show 0 < (j : Int) + 1 by omega)
  have wi : ∀ z : Int, -9223372036854775808 ≤ z ∧ z ≤ 9223372036854775807 → wrap64 z = z := by intro z h; unfold wrap64; omega
  rw [wi (a.tmod ((j : Int) + 1) + j) (by omega), wi _ (by omega), Int.tmod_eq_emod_of_nonneg (by omega)]
  have h3 := Int.emod_nonneg (a.tmod ((j : Int) + 1) + j + 1) (show (j : Int) + 1 ≠ 0 by omega)
  have h4 := Int.emod_lt_of_pos (a.tmod ((j : Int) + 1) + j + 1) (show 0 < (j : Int) + 1 by omega)
  exact ⟨((a.tmod ((j : Int) + 1) + j + 1) % ((j : Int) + 1)).toNat, by omega, by omega⟩

theorem wh_start {w0 wr : World} {d j : Nat} {F FJ : Nat → Prop} {S : Dsk} {J : Jr} (h : ShSt w0 wr d j F FJ S J) (hJ : J.put = []) :
    WhSt w0 ((wr.alloc (.cells #[.string (shw S.now 8)] 9)).alloc (.cells #[.int .i64 0] 3)) d j F FJ S J (.slice (some ⟨wr.heap.size, 0, none⟩) 1 1) (.slice (some ⟨wr.heap.size + 1, 0, none⟩) 1 1) [shw S.now 8] [0] := by
  have hb : Below wr.heap.size wr ((wr.alloc (.cells #[.string (shw S.now 8)] 9)).alloc (.cells #[.int .i64 0] 3)) := ((Below.refl _ _).alloc (Nat.le_refl _) _).alloc (by simp) _
  have b0 := Blk.new wr 9 #[.string (shw S.now 8)]
  have b1 := Blk.new (wr.alloc (.cells #[.string (shw S.now 8)] 9)) 3 #[.int .i64 0]
  simp only [World.size_alloc] at b1
  have hsz := h.below.size
  refine ⟨h.later hb, by rw [hJ]; exact List.nodup_nil, own_of_blk (b0.alloc _) 1 1 rfl (by simp [maxLen]), own_of_blk b1 1 1 rfl (by simp [maxLen]), fun b hb => ?_, fun b hb => ?_⟩
  · simp only [Value.ownBlock, Option.some.injEq] at hb
    subst hb
    exact ⟨hsz, fun e => by have := h.disk.lt e; omega, fun e => by have := h.jr.lt e; omega⟩
  · simp only [Value.ownBlock, Option.some.injEq] at hb
    subst hb
    exact ⟨by omega, fun e => by have := h.disk.lt e; omega, fun e => by have := h.jr.lt e; omega⟩

/-- a disk of the law's own -/
structure Dk (w0 wr : World) (F : Nat → Prop) (o : Nat) (S : Dsk) : Prop where
  disk : DiskAt wr F o S
  good : S.Good 12
  ev : S.ev.length ≤ 1000
  wr : S.wrote.length ≤ 1000000
  fr : ∀ b, F b → w0.heap.size ≤ b
theorem Dk.later {w0 wr w' : World} {F : Nat → Prop} {o : Nat} {S : Dsk} (h : Dk w0 wr F o S) (hb : Below wr.heap.size wr w') : Dk w0 w' F o S := ⟨h.disk.below hb, h.good, h.ev, h.wr, h.fr⟩
theorem Dk.mod {w0 wr w' : World} {F G : Nat → Prop} {o : Nat} {S : Dsk} (h : Dk w0 wr F o S) (hm : Mod G wr w') (hG : ∀ b, F b → ¬ G b) : Dk w0 w' F o S := ⟨h.disk.mod hm hG, h.good, h.ev, h.wr, h.fr⟩

/-- three disks, the states, and the row of two of the disks -/
structure FinS (w0 wr : World) (o f h g : Nat) (So Sf Sh : Dsk) (vs : Value) (sts : List ByteArray) (Fo Ff Fh : Nat → Prop) : Prop where
  dko : Dk w0 wr Fo o So
  dkf : Dk w0 wr Ff f Sf
  dkh : Dk w0 wr Fh h Sh
  no : ∀ b, Fo b → ¬ Ff b ∧ ¬ Fh b
  nf : ∀ b, Ff b → ¬ Fh b
  below : Below w0.heap.size w0 wr
  os : wr.ownsRow 0 9 1 vs sts.length (bas sts)
  fs : ∀ b, vs.ownBlock = some b → ¬ Fo b ∧ ¬ Ff b ∧ ¬ Fh b
  row : Blk wr g 26 [.pointer (some ⟨o, 0, none⟩), .pointer (some ⟨h, 0, none⟩)]
  ng : ¬ Fo g ∧ ¬ Ff g ∧ ¬ Fh g
def FinP (w0 wr : World) (o f h g : Nat) (So Sf Sh : Dsk) (vs : Value) (sts : List ByteArray) : Prop := ∃ Fo Ff Fh, FinS w0 wr o f h g So Sf Sh vs sts Fo Ff Fh
theorem FinP.later {w0 wr w' : World} {o f h g : Nat} {So Sf Sh : Dsk} {vs : Value} {sts : List ByteArray} (hp : FinP w0 wr o f h g So Sf Sh vs sts) (hb : Below wr.heap.size wr w') : FinP w0 w' o f h g So Sf Sh vs sts := by
  obtain ⟨Fo, Ff, Fh, q⟩ := hp
  exact ⟨Fo, Ff, Fh, q.dko.later hb, q.dkf.later hb, q.dkh.later hb, q.no, q.nf, q.below.trans (hb.mono q.below.size), own_below q.os hb, q.fs, q.row.below' hb, q.ng⟩
/-- So is as it was made, or opened -/
def Opd (R : List UInt8) (S : Dsk) : Prop := S = fresh R ∨ S = opn 12 0 4 (fresh R)
theorem Opd.opn {R : List UInt8} {S : Dsk} (hR : R.length = 12 * 256) (h : Opd R S) : opn 12 0 4 S = opn 12 0 4 (fresh R) := by
  rcases h with rfl | rfl
  · rfl
  · exact opn_opn (fresh_good hR)
theorem opn_fresh {R : List UInt8} (hR : R.length = 12 * 256) : (opn 12 0 4 (fresh R)).Good 12 ∧ (opn 12 0 4 (fresh R)).ev.length ≤ 1000 ∧ (opn 12 0 4 (fresh R)).wrote.length ≤ 1000000 := by
  obtain ⟨h1, h2, h3⟩ := opn_good (S := fresh R) (k := 12) (a := 0) (s := 4) (fresh_good hR) (by omega) (by omega)
  have e1 : (fresh R).ev.length = 0 := rfl
  have e2 : (fresh R).wrote.length = 0 := rfl
  exact ⟨h1, by omega, by omega⟩
theorem FinP.openO {w0 wr : World} {o f h g : Nat} {So Sf Sh : Dsk} {vs : Value} {sts : List ByteArray} (hp : FinP w0 wr o f h g So Sf Sh vs sts) {R : List UInt8} (hR : R.length = 12 * 256) (hS : Opd R So) :
    Calls Try.prog 32 #[.pointer (some ⟨o, 0, none⟩), .int .i64 0, .int .i64 4] wr fun e w' => ∃ j, e = .returned (.tuple #[.pointer (some ⟨j, 0, none⟩), .int .i64 0]) ∧ FinP w0 w' o f h g (opn 12 0 4 (fresh R)) Sf Sh vs sts := by
  obtain ⟨Fo, Ff, Fh, q⟩ := hp
  refine (open_ok wr Fo o 12 0 4 So q.dko.disk (by omega) (by omega) q.dko.good (by omega) (by omega) (by omega) (by have := q.dko.ev; omega) (by have := q.dko.wr; omega)).mono ?_
  rintro e w' ⟨j, F', FJ, rfl, _, hd, hm, hF, _, _⟩
  rw [hS.opn hR] at hd
  obtain ⟨g1, g2, g3⟩ := opn_fresh hR
  have hs := q.below.size
  have hlo : ∀ b, F' b → w0.heap.size ≤ b := fun b hb => (hF b hb).elim (q.dko.fr b) (fun e => by omega)
  have no : ∀ b, F' b → ¬ Ff b ∧ ¬ Fh b := fun b hb => (hF b hb).elim (q.no b) (fun e => ⟨fun e2 => by have := q.dkf.disk.lt e2; omega, fun e2 => by have := q.dkh.disk.lt e2; omega⟩)
  refine ⟨j, rfl, F', Ff, Fh, ⟨hd, g1, g2, g3, hlo⟩, q.dkf.mod hm (fun b hb e => (q.no b e).1 hb), q.dkh.mod hm (fun b hb e => (q.no b e).2 hb), no, q.nf, q.below.trans (hm.below hs (fun b hb => q.dko.fr b hb)), own_mod q.os hm (fun b hb => (q.fs b hb).1), fun b hb => ⟨fun e => (hF b e).elim (q.fs b hb).1 (fun e => by have := own_lt' q.os hb; omega), (q.fs b hb).2⟩, q.row.mod hm q.ng.1, fun e => (hF g e).elim q.ng.1 (fun e => by have := q.row.lt; omega), q.ng.2⟩
theorem FinP.openH {w0 wr : World} {o f h g : Nat} {So Sf Sh : Dsk} {vs : Value} {sts : List ByteArray} (hp : FinP w0 wr o f h g So Sf Sh vs sts) {R : List UInt8} (hR : R.length = 12 * 256) (hS : Opd R Sh) :
    Calls Try.prog 32 #[.pointer (some ⟨h, 0, none⟩), .int .i64 0, .int .i64 4] wr fun e w' => ∃ j, e = .returned (.tuple #[.pointer (some ⟨j, 0, none⟩), .int .i64 0]) ∧ FinP w0 w' o f h g So Sf (opn 12 0 4 (fresh R)) vs sts := by
  obtain ⟨Fo, Ff, Fh, q⟩ := hp
  refine (open_ok wr Fh h 12 0 4 Sh q.dkh.disk (by omega) (by omega) q.dkh.good (by omega) (by omega) (by omega) (by have := q.dkh.ev; omega) (by have := q.dkh.wr; omega)).mono ?_
  rintro e w' ⟨j, F', FJ, rfl, _, hd, hm, hF, _, _⟩
  rw [hS.opn hR] at hd
  obtain ⟨g1, g2, g3⟩ := opn_fresh hR
  have hs := q.below.size
  have hlo : ∀ b, F' b → w0.heap.size ≤ b := fun b hb => (hF b hb).elim (q.dkh.fr b) (fun e => by omega)
  refine ⟨j, rfl, Fo, Ff, F', q.dko.mod hm (fun b hb e => (q.no b hb).2 e), q.dkf.mod hm (fun b hb e => q.nf b hb e), ⟨hd, g1, g2, g3, hlo⟩, fun b hb => ⟨(q.no b hb).1, fun e => (hF b e).elim (q.no b hb).2 (fun e => by have := q.dko.disk.lt hb; omega)⟩, fun b hb e => (hF b e).elim (q.nf b hb) (fun e => by have := q.dkf.disk.lt hb; omega),
    q.below.trans (hm.below hs (fun b hb => q.dkh.fr b hb)), own_mod q.os hm (fun b hb => (q.fs b hb).2.2), fun b hb => ⟨(q.fs b hb).1, (q.fs b hb).2.1, fun e => (hF b e).elim (q.fs b hb).2.2 (fun e => by have := own_lt' q.os hb; omega)⟩, q.row.mod hm q.ng.2.2, q.ng.1, q.ng.2.1, fun e => (hF g e).elim q.ng.2.2 (fun e => by have := q.row.lt; omega)⟩
/-- the three disks, behind what made them -/
theorem fin_start {w0 wr w3 w4 w5 : World} {o f h : Nat} {R R2 : List UInt8} {Fo Ff : Nat → Prop} {vs : Value} {sts : List ByteArray} (hR : R.length = 12 * 256) (hR2 : R2.length = 12 * 256) (hb0 : Below w0.heap.size w0 wr) (ho : Dk w0 wr Fo o (fresh R)) (hb3 : Below wr.heap.size wr w3)
    (hm4 : Mod (fun b => wr.heap.size ≤ b ∧ b < w3.heap.size) w3 w4) (hd4 : DiskAt w4 Ff f (opn 12 0 4 (fresh R))) (hF4 : ∀ b, Ff b → (wr.heap.size ≤ b ∧ b < w3.heap.size) ∨ w3.heap.size ≤ b) (hd5 : DiskAt w5 (fun b => w4.heap.size ≤ b ∧ b < w5.heap.size) h (fresh R2)) (hb5 : Below w4.heap.size w4 w5)
    (hos : wr.ownsRow 0 9 1 vs sts.length (bas sts)) (hfo : ∀ b, vs.ownBlock = some b → ¬ Fo b) :
    FinP w0 (w5.alloc (.cells #[.pointer (some ⟨o, 0, none⟩), .pointer (some ⟨h, 0, none⟩)] 26)) o f h w5.heap.size (fresh R) (opn 12 0 4 (fresh R)) (fresh R2) vs sts := by
  have s0 := hb0.size
  have s3 := hb3.size
  have s4 := hm4.size
  have s5 := hb5.size
  obtain ⟨g1, g2, g3⟩ := opn_fresh hR
  have hb4 : Below wr.heap.size wr w4 := hb3.trans (hm4.below s3 (fun b hb => hb.1))
  have hb45 : Below wr.heap.size wr w5 := hb4.trans (hb5.mono (by omega))
  have hba : Below w5.heap.size w5 (w5.alloc (.cells #[.pointer (some ⟨o, 0, none⟩), .pointer (some ⟨h, 0, none⟩)] 26)) := (Below.refl _ _).alloc (Nat.le_refl _) _
  have hbA := hb45.trans (hba.mono (by omega))
  have flo : ∀ b, Ff b → wr.heap.size ≤ b := fun b hb => (hF4 b hb).elim (fun h => h.1) (fun h => by omega)
  have hf : Dk w0 w4 Ff f (opn 12 0 4 (fresh R)) := ⟨hd4, g1, g2, g3, fun b hb => by have := flo b hb; omega⟩
  have hh : Dk w0 w5 (fun b => w4.heap.size ≤ b ∧ b < w5.heap.size) h (fresh R2) := ⟨hd5, fresh_good hR2, by simp [fresh], by simp [fresh], fun b hb => by omega⟩
  refine ⟨Fo, Ff, _, ho.later hbA, (hf.later hb5).later hba, hh.later hba, fun b hb => ⟨fun e => by have := ho.disk.lt hb; have := flo b e; omega, fun e => by have := ho.disk.lt hb; omega⟩, fun b hb e => by have := hd4.lt hb; omega,
    hb0.trans (hbA.mono s0), own_below hos hbA, fun b hb => ⟨hfo b hb, fun e => by have := own_lt' hos hb; have := flo b e; omega, fun e => by have := own_lt' hos hb; omega⟩, Blk.new _ _ _, fun e => by have := ho.disk.lt e; omega, fun e => by have := hd4.lt e; omega, fun e => by omega⟩
theorem FinP.shown_ {w0 wr : World} {o f h g : Nat} {So Sf Sh : Dsk} {vs : Value} {sts : List ByteArray} (hp : FinP w0 wr o f h g So Sf Sh vs sts) :
    (Calls Try.prog 33 #[.pointer (some ⟨o, 0, none⟩)] wr fun e w' => e = .returned (.string (shw So.now 8)) ∧ FinP w0 w' o f h g So Sf Sh vs sts) ∧ (Calls Try.prog 33 #[.pointer (some ⟨f, 0, none⟩)] wr fun e w' => e = .returned (.string (shw Sf.now 8)) ∧ FinP w0 w' o f h g So Sf Sh vs sts) ∧
    (Calls Try.prog 33 #[.pointer (some ⟨h, 0, none⟩)] wr fun e w' => e = .returned (.string (shw Sh.now 8)) ∧ FinP w0 w' o f h g So Sf Sh vs sts) := by
  have hp' := hp
  obtain ⟨Fo, Ff, Fh, q⟩ := hp
  refine ⟨(shown_ok wr Fo o So q.dko.disk q.dko.good.ok.now).mono ?_, (shown_ok wr Ff f Sf q.dkf.disk q.dkf.good.ok.now).mono ?_, (shown_ok wr Fh h Sh q.dkh.disk q.dkh.good.ok.now).mono ?_⟩
  all_goals
    rintro e w' ⟨rfl, hb⟩
    exact ⟨rfl, hp'.later hb⟩
theorem FinP.at_ {w0 wr : World} {o f h g : Nat} {So Sf Sh : Dsk} {vs : Value} {sts : List ByteArray} (hp : FinP w0 wr o f h g So Sf Sh vs sts) : wr.cell? ⟨g, 0, none⟩ = some (.pointer (some ⟨o, 0, none⟩)) ∧ wr.cell? ⟨g, 1, none⟩ = some (.pointer (some ⟨h, 0, none⟩)) ∧ g < wr.heap.size ∧ Below w0.heap.size w0 wr ∧ wr.ownsRow 0 9 1 vs sts.length (bas sts) := by
  obtain ⟨Fo, Ff, Fh, q⟩ := hp
  exact ⟨by rw [q.row.cell]; rfl, by rw [q.row.cell]; rfl, q.row.lt, q.below, q.os⟩
end Go.Proofs.Ytjdobjcbmmdjeaa
