import Derived.Test.YtjdobjcbmmdjeaaB4
namespace Go.Proofs.Ytjdobjcbmmdjeaa
open Go.RowKit

/-- a disk's rows, laid open -/
theorem DiskAt.cell {w : World} {F : Nat → Prop} {d : Nat} {S : Dsk} (h : DiskAt w F d S) : ∃ vf vn ve vw, w.cell? ⟨d, 0, none⟩ = some vf ∧ w.cell? ⟨d, 1, none⟩ = some vn ∧ w.cell? ⟨d, 2, none⟩ = some ve ∧ w.cell? ⟨d, 3, none⟩ = some vw ∧
    w.ownsRow 0 5 1 vf S.first.length (B8 S.first) ∧ w.ownsRow 0 5 1 vn S.now.length (B8 S.now) ∧ w.ownsRow 0 87 3 ve S.ev.length (E3 S.ev) ∧ w.ownsRow 0 5 1 vw S.wrote.length (B8 S.wrote) ∧ d < w.heap.size := by
  obtain ⟨vf, vn, ve, vw, _, hd, hof, hon, hoe, how, _⟩ := h
  exact ⟨vf, vn, ve, vw, by rw [hd.cell]; rfl, by rw [hd.cell]; rfl, by rw [hd.cell]; rfl, by rw [hd.cell]; rfl, hof, hon, hoe, how, hd.lt⟩

theorem DiskAt.mod {w w' : World} {F G : Nat → Prop} {d : Nat} {S : Dsk} (h : DiskAt w F d S) (hm : Mod G w w') (hG : ∀ b, F b → ¬ G b) : DiskAt w' F d S := by
  obtain ⟨vf, vn, ve, vw, hF, hd, hof, hon, hoe, how, hFb, h1, h2, hlt⟩ := h
  exact ⟨vf, vn, ve, vw, hF, hd.mod hm (hG _ hF), own_mod hof hm (fun b hb => hG b (hFb b (.inl hb))), own_mod hon hm (fun b hb => hG b (hFb b (.inr (.inl hb)))), own_mod hoe hm (fun b hb => hG b (hFb b (.inr (.inr (.inl hb))))),
    own_mod how hm (fun b hb => hG b (hFb b (.inr (.inr (.inr hb))))), hFb, h1, h2, fun b hb => Nat.lt_of_lt_of_le (hlt b hb) hm.size⟩
theorem DiskAt.below {w w' : World} {F : Nat → Prop} {d : Nat} {S : Dsk} (h : DiskAt w F d S) (hb : Below w.heap.size w w') : DiskAt w' F d S := h.mod (G := fun _ => False) (Mod.of_below hb) (fun _ _ h => h)
theorem DiskAt.mono {w : World} {F G : Nat → Prop} {d : Nat} {S : Dsk} (h : DiskAt w F d S) (hF : ∀ b, F b → G b) (hG : ∀ b, G b → b < w.heap.size) : DiskAt w G d S := by
  obtain ⟨vf, vn, ve, vw, hFd, hd, hof, hon, hoe, how, hFb, h1, h2, _⟩ := h
  exact ⟨vf, vn, ve, vw, hF _ hFd, hd, hof, hon, hoe, how, fun b hb => hF b (hFb b hb), h1, h2, hG⟩

theorem DiskAt.sectors {w : World} {F : Nat → Prop} {d k : Nat} {S : Dsk} (h : DiskAt w F d S) (hk : k ≤ 2048) (hn : S.now.length = k * 256) : Calls Try.prog 13 #[.pointer (some ⟨d, 0, none⟩)] w fun e w' => e = .returned (.int .i64 k) ∧ w = w' := by
  obtain ⟨vf, vn, ve, vw, _, c1, _, _, _, hon, _, _, _⟩ := h.cell
  obtain ⟨A, c, rfl, _, _⟩ := own_form hon
  rw [hn] at c1
  have := sectors_any d A (k * 256) c w c1 (by omega)
  rwa [Nat.mul_div_cancel k (by omega : 0 < 256)] at this
theorem DiskAt.events {w : World} {F : Nat → Prop} {d : Nat} {S : Dsk} (h : DiskAt w F d S) : Calls Try.prog 17 #[.pointer (some ⟨d, 0, none⟩)] w fun e w' => e = .returned (.int .i64 S.ev.length) ∧ w = w' := by
  obtain ⟨vf, vn, ve, vw, _, _, c2, _, _, _, hoe, _, _⟩ := h.cell
  obtain ⟨A, c, rfl, _, _⟩ := own_form hoe
  exact events_any d A _ c w c2
theorem DiskAt.part_out {w : World} {F : Nat → Prop} {d k : Nat} {S : Dsk} (h : DiskAt w F d S) (hk1 : 1 ≤ k) (hk : k ≤ 2048) (hn : S.now.length = k * 256) {n : Int} (ho : n < 0 ∨ (k : Int) ≤ n) :
    Calls Try.prog 40 #[.pointer (some ⟨d, 0, none⟩), .int .i64 n] w fun e w' => e = .returned (.tuple #[.slice none 0 0, .int .i64 2]) ∧ w = w' := by
  obtain ⟨vf, vn, ve, vw, _, c1, _, _, _, hon, _, _, _⟩ := h.cell
  obtain ⟨A, c, rfl, _, _⟩ := own_form hon
  rw [hn] at c1
  exact Go.Proofs.Ytjdobjcbmmdjeaa.part_out d A k c n w c1 hk1 hk ho
theorem DiskAt.part_in {w : World} {F : Nat → Prop} {d k n : Nat} {S : Dsk} (h : DiskAt w F d S) (hk : k ≤ 2048) (hn : S.now.length = k * 256) (ho : n < k) :
    ∃ g c, w.ownsRow 0 5 1 (.slice (some ⟨g, 0, none⟩) (k * 256) c) (k * 256) (B8 S.now) ∧ Calls Try.prog 40 #[.pointer (some ⟨d, 0, none⟩), .int .i64 n] w fun e w' => e = .returned (.tuple #[.slice (some ⟨g, n * 256, none⟩) 256 256, .int .i64 0]) ∧ w = w' := by
  obtain ⟨vf, vn, ve, vw, _, c1, _, _, _, hon, _, _, _⟩ := h.cell
  rw [hn] at hon
  obtain ⟨g, cap, rfl, _, _⟩ := hon.form (by omega)
  obtain ⟨_, _, e, hc, _⟩ := own_form hon
  simp only [Value.slice.injEq] at e
  exact ⟨g, cap, hon, Go.Proofs.Ytjdobjcbmmdjeaa.part_in d g k cap n w c1 hk ho (by omega)⟩

/-- a cut of an owned row -/
theorem Sl.cut {w : World} {g n cap : Nat} {e : TypeId} {l : List UInt8} (h : w.ownsRow 0 e 1 (.slice (some ⟨g, 0, none⟩) n cap) n (B8 l)) (off m c : Nat) (hm : off + m ≤ n) (hc : m ≤ c) :
    Sl w (fun b => b = g) 1 (.slice (some ⟨g, off, none⟩) m c) m (B8 ((l.drop off).take m)) := by
  have hl : l.length = n := by have := h.1; simpa [B8] using this
  refine ⟨by rw [B8_length, List.length_take, List.length_drop]; omega, _, c, rfl, hc, fun _ => ⟨_, rfl, rfl, fun j u hu => ?_⟩⟩
  rw [add_lit0]
  have hj : j < m := by
    have := (List.getElem?_eq_some_iff.1 hu).1
    rw [B8_length, List.length_take] at this; omega
  rw [← B8_take, ← B8_drop, List.getElem?_take, if_pos hj, List.getElem?_drop] at hu
  have := h.cells rfl (off + j) u hu
  rwa [add_lit0, Nat.zero_add] at this

/-- Disk.Read -/
theorem read_ok (w : World) (F : Nat → Prop) (d k n : Nat) (S : Dsk) (h : DiskAt w F d S) (hk : k ≤ 2048) (hnow : S.now.length = k * 256) (hn : n < k) :
    Calls Try.prog 11 #[.pointer (some ⟨d, 0, none⟩), .int .i64 n] w fun e w' => ∃ A c, e = .returned (.tuple #[.slice A 256 c, .int .i64 0]) ∧ NewBytes w w' (.slice A 256 c) ((S.now.drop (n * 256)).take 256) := by
  obtain ⟨g, c, hown, hp⟩ := h.part_in hk hnow hn
  have HP := Lib.hid hp
  have HS := Lib.hid (Sl.cut hown (n * 256) 256 256 (by omega) (Nat.le_refl _))
  have HL : Hid (((S.now.drop (n * 256)).take 256).length = 256) := by
    have : ((S.now.drop (n * 256)).take 256).length = 256 := by rw [List.length_take, List.length_drop, hnow]; omega
    exact this
  clear hp h hown hnow
  go_enter Try.func11, Try.ntmps11
  go_wp2_with fail
  refine (HP.out).mono ?_; rintro e w' ⟨rfl, rfl⟩
  go_wp2_with fail
  refine (clone_any _ 256 256 _ _ _ HS.out (by omega)).mono ?_
  rintro e w' ⟨A', c', rfl, ho, hb, hf, hn⟩
  clear hn
  have HW := Lib.hid (And.intro ho (And.intro hb hf)); clear ho hb hf
  go_wp2_with fail
  go_ret2
  obtain ⟨ho, hb, hf⟩ := HW.out
  exact ⟨A', c', rfl, ⟨A', c', by rw [HL.out]⟩, by rw [HL.out]; exact ho, hf, hb⟩
theorem read_out (w : World) (F : Nat → Prop) (d k : Nat) (n : Int) (S : Dsk) (h : DiskAt w F d S) (hk1 : 1 ≤ k) (hk : k ≤ 2048) (hnow : S.now.length = k * 256) (hn : n < 0 ∨ (k : Int) ≤ n) :
    Calls Try.prog 11 #[.pointer (some ⟨d, 0, none⟩), .int .i64 n] w fun e w' => e = .returned (.tuple #[.slice none 0 0, .int .i64 2]) ∧ Below w.heap.size w w' :=
  read_bad _ n 2 w (h.part_out hk1 hk hnow hn)

set_option maxHeartbeats 1000000 in
/-- Disk.Flush -/
theorem flush_ok (w : World) (F : Nat → Prop) (d k : Nat) (S : Dsk) (h : DiskAt w F d S) (hk1 : 1 ≤ k) (hk2 : k ≤ 2048) (hnow : S.now.length = k * 256) (hev : S.ev.length ≤ 1000000000) :
    Calls Try.prog 16 #[.pointer (some ⟨d, 0, none⟩)] w fun e w' => e = .returned (.int .i64 0) ∧
      DiskAt w' (fun b => F b ∨ (w.heap.size ≤ b ∧ b < w'.heap.size)) d ⟨S.first, S.now, S.ev ++ [(0, 2, 0)], S.wrote⟩ ∧ Mod F w w' := by
  have hs := h.sectors hk2 hnow
  obtain ⟨first, now, ev, wrote⟩ := S
  simp only at hnow hev hs ⊢
  obtain ⟨vf, vn, ve, vw, hFd, hd, hof, hon, hoe, how, hFb, hd1, hd2, hlt⟩ := h
  obtain ⟨Ae, ce, rfl, _, _⟩ := own_form hoe
  have c2 : w.cell? ⟨d, 2, none⟩ = some (.slice Ae ev.length ce) := by rw [hd.cell]; rfl
  have hdlt : d < w.heap.size := hd.lt
  have k0 : ((k : Int) == 0) = false := by simp; omega
  have HS := Lib.hid hs
  have HD := Lib.hid (And.intro hd (And.intro hof (And.intro hon (And.intro hoe how))))
  have HX := Lib.hid (And.intro hFb (And.intro hd1 (And.intro hd2 hlt)))
  have HE := Lib.hid hev
  clear hs hd hof hon hoe how hFb hd1 hd2 hlt hev hnow
  go_enter Try.func16, Try.ntmps16
  go_wp2_with fail
  refine (HS.out).mono ?_; rintro e w' ⟨rfl, rfl⟩
  go_wp2_with (at_builtin
               refine wpList_app _ rfl (.tmp 10) (.tmp 12) 27 rfl 87 _ 3 24 Try.underlying27 info87 rfl (by omega) (by omega) (.slice Ae ev.length ce) ev.length (E3 ev) rfl
                 (HD.out.2.2.2.1.alloc _) (fun i => i = w.heap.size) (.slice (some ⟨w.heap.size, 0, none⟩) 1 1) 1 [.int .i64 0, .int .i64 2, .int .i64 0] rfl
                 (Sl.of_blk (Blk.new w 87 #[.int .i64 0, .int .i64 2, .int .i64 0]) 3 1 1 rfl (by omega)) (by simp [Value.oneCell']) (by have := HE.out; omega) ?_
               intro Ae' ce' w2 hoe2 hg2 hat2 _
               have hm2 : Mod (fun i => (Value.slice Ae ev.length ce).ownBlock = some i) w w2 := ((Mod.refl _ _).alloc _).grown hg2 (fun k hk _ => hk)
               have hd2 : Blk w2 d 29 _ := HD.out.1.mod hm2 (fun e => own_blk_ne HD.out.2.2.2.1 HD.out.1 (by decide) e)
               have c22 : w2.cell? ⟨d, 2, none⟩ = some (.slice Ae ev.length ce) := by rw [hd2.cell]; rfl
               have f22 := hd2.frozen 2
               have HW2 := Lib.hid (And.intro hd2 (And.intro hoe2 (And.intro hm2 hat2)))
               clear hd2 hoe2 hg2 hat2 hm2)
  go_ret
  obtain ⟨hd2, hoe2, hm2, hat2⟩ := HW2.out
  obtain ⟨hd, hof, hon, hoe, how⟩ := HD.out
  obtain ⟨hFb, hdA, hdB, hlt⟩ := HX.out
  have hm3 : Mod (fun i => (Value.slice Ae ev.length ce).ownBlock = some i ∨ i = d) w (w2.setCell ⟨d, 2, none⟩ (.slice Ae' (ev.length + 1) ce')) := (hm2.mono (fun _ _ h => .inl h)).setCell (fun _ => .inr rfl) _
  have fe : ∀ b, (Value.slice Ae' (ev.length + 1) ce').ownBlock = some b → (Value.slice Ae ev.length ce).ownBlock = some b ∨ w.heap.size ≤ b := by
    intro b hb
    rcases hat2 with e | e
    · exact .inl (by rw [← e]; exact hb)
    · rw [e] at hb; injection hb with hb; simp at hb; exact .inr (by omega)
  have hoe4 := own_setCell hoe2 (p := ⟨d, 2, none⟩) (own_blk_ne hoe2 hd2 (by decide)) (.slice Ae' (ev.length + 1) ce')
  refine ⟨rfl, ⟨vf, vn, _, vw, .inl hFd, hd2.set_ 2 _, ?_, ?_, ?_, ?_, ?_, hdA, hdB, ?_⟩, hm3.mono (fun i _ hi => ?_)⟩
  · exact own_mod hof hm3 (fun b hb e => by rcases e with e | e; exact own_ne hof hoe (by decide) b hb e; exact own_blk_ne hof hd (by decide) (by rw [hb, e]))
  · exact own_mod hon hm3 (fun b hb e => by rcases e with e | e; exact own_ne hon hoe (by decide) b hb e; exact own_blk_ne hon hd (by decide) (by rw [hb, e]))
  · rw [E3_append, List.length_append]; exact hoe4
  · exact own_mod how hm3 (fun b hb e => by rcases e with e | e; exact own_ne how hoe (by decide) b hb e; exact own_blk_ne how hd (by decide) (by rw [hb, e]))
  · intro b hb
    rcases hb with hb | hb | hb | hb
    · exact .inl (hFb b (.inl hb))
    · exact .inl (hFb b (.inr (.inl hb)))
    · rcases fe b hb with h | h
      · exact .inl (hFb b (.inr (.inr (.inl h))))
      · exact .inr ⟨h, own_lt' hoe4 hb⟩
    · exact .inl (hFb b (.inr (.inr (.inr hb))))
  · intro b hb
    rcases hb with hb | hb
    · exact Nat.lt_of_lt_of_le (hlt b hb) hm3.size
    · exact hb.2
  · rcases hi with h | h
    · exact hFb i (.inr (.inr (.inl h)))
    · rw [h]; exact hFd
end Go.Proofs.Ytjdobjcbmmdjeaa
