import Derived.Test.YtjdobjcbmmdjeaaProg
import Derived.Test.YtjdobjcbmmdjeaaWd
namespace Go.Proofs.Ytjdobjcbmmdjeaa
open Go.RowKit

theorem info5 : (Try.prog.info? 5).map (fun i => (i.zero, i.size, i.bytes)) = some (some (.int .u8 0), 1, 1) := by kernel_rfl
theorem info87 : (Try.prog.info? 87).map (fun i => (i.zero, i.size, i.bytes)) = some (some (.agg #[.int .i64 0, .int .i64 0, .int .i64 0]), 3, 24) := by kernel_rfl

/-- bytes.Clone -/
theorem clone_any (A : Option Addr) (n c : Nat) (l : List UInt8) (F : Nat → Prop) (w : World) (h : Sl w F 1 (.slice A n c) n (B8 l)) (hn : n ≤ 140737488355328) :
    Calls Try.prog 41 #[.slice A n c] w fun e w' => ∃ A' c', e = .returned (.slice A' n c') ∧ w'.ownsRow 0 5 1 (.slice A' n c') n (B8 l) ∧ Below w.heap.size w w' ∧
      (∀ b, (Value.slice A' n c').ownBlock = some b → w.heap.size ≤ b) ∧ (A = none → A' = none ∧ c' = 0) := by
  have q := fun (w : World) => Lib.run_eql_slice_nil (P := Try.prog) w 22 5 A n c 0 0 Try.underlying22
  have hA : Hid (A = none → n = 0) := by
    intro hA; subst hA
    obtain ⟨_, A, c, hv, _, hr⟩ := h
    rcases Nat.eq_zero_or_pos n with h0 | h0
    · exact h0
    · obtain ⟨ad, h1, _⟩ := hr h0
      injection hv with hv; rw [h1] at hv; cases hv
  have hl : Hid ((B8 l).length = n * 1) := h.1
  cases A with
  | none =>
    obtain rfl := hA.out rfl
    go_enter Try.func41, Try.ntmps41
    go_wp2
    go_ret
    have hx : l = [] := List.eq_nil_of_length_eq_zero (by have := hl.out; simpa [B8] using this)
    subst hx
    exact ⟨_, _, rfl, own_nil0 _ _ _, Below.refl _ _, by simp [Value.ownBlock], rfl, rfl⟩
  | some ad =>
    go_enter Try.func41, Try.ntmps41
    go_wp2_with (at_builtin
                 refine wpList_app _ rfl (.tmp 5) (.tmp 6) 22 rfl 5 (.int .u8 0) 1 1 Try.underlying22 info5 rfl (by omega) (by omega) (.slice (some ⟨w.heap.size, 0, none⟩) 0 0) 0 [] rfl
                   (own_of_blk (Blk.new w 5 #[]) 1 0 rfl (by simp [maxLen])) F (.slice (some ad) n c) n (B8 l) rfl (h.below (by omega) ((Below.refl _ _).alloc (Nat.le_refl _) _)) (B8_one l) (by omega) ?_
                 intro A' c' w' hown hg hat hnil)
    go_ret
    simp only [Nat.zero_add, List.nil_append] at hown hat ⊢
    refine ⟨A', c', rfl, hown, ((Below.refl _ _).alloc (Nat.le_refl _) _).grown hg (by simp) (by simp [Value.ownBlock]), fun b hb => ?_, fun h => by cases h⟩
    rcases hat with e | e <;> rw [e] at hb <;> simp [Value.ownBlock] at hb <;> omega

/-- Disk.Sectors -/
theorem sectors_nil (w : World) : Calls Try.prog 13 #[.pointer none] w fun e w' => e = .returned (.int .i64 0) ∧ w = w' := by
  go_enter Try.func13, Try.ntmps13
  go_wp2
  go_ret
  exact ⟨rfl, rfl⟩

theorem sectors_any (d : Nat) (A : Option Addr) (n c : Nat) (w : World) (h : w.cell? ⟨d, 1, none⟩ = some (.slice A n c)) (hn : n ≤ 9223372036854775807) :
    Calls Try.prog 13 #[.pointer (some ⟨d, 0, none⟩)] w fun e w' => e = .returned (.int .i64 (n / 256 : Nat)) ∧ w = w' := by
  go_enter Try.func13, Try.ntmps13
  go_wp2
  go_ret
  exact ⟨rfl, rfl⟩

/-- Disk.part -/
theorem part_none (P : Value) (n : Int) (w : World) (h : Calls Try.prog 13 #[P] w fun e w' => e = .returned (.int .i64 0) ∧ w = w') :
    Calls Try.prog 40 #[P, .int .i64 n] w fun e w' => e = .returned (.tuple #[.slice none 0 0, .int .i64 1]) ∧ w = w' := by
  have H := Lib.hid h; clear h
  go_enter Try.func40, Try.ntmps40
  go_wp2_with (go_at_call 13; refine (H.out).mono ?_; rintro e w' ⟨rfl, rfl⟩)
  go_ret2
  exact ⟨rfl, rfl⟩

theorem part_out (d : Nat) (A : Option Addr) (k c : Nat) (n : Int) (w : World) (h : w.cell? ⟨d, 1, none⟩ = some (.slice A (k * 256) c)) (hk : 1 ≤ k) (hk2 : k ≤ 2048) (hn : n < 0 ∨ (k : Int) ≤ n) :
    Calls Try.prog 40 #[.pointer (some ⟨d, 0, none⟩), .int .i64 n] w fun e w' => e = .returned (.tuple #[.slice none 0 0, .int .i64 2]) ∧ w = w' := by
  have hs := sectors_any d A (k * 256) c w h (by omega)
  rw [Nat.mul_div_cancel k (by omega : 0 < 256)] at hs
  have H := Lib.hid hs; clear hs
  have h0 : ((k : Int) == 0) = false := by simp; omega
  rcases hn with hn | hn
  · go_enter Try.func40, Try.ntmps40
    go_wp2_with (go_at_call 13; refine (H.out).mono ?_; rintro e w' ⟨rfl, rfl⟩)
    go_ret2
    exact ⟨rfl, rfl⟩
  · have hn0 : ¬ n < 0 := by omega
    go_enter Try.func40, Try.ntmps40
    go_wp2_with (go_at_call 13; refine (H.out).mono ?_; rintro e w' ⟨rfl, rfl⟩)
    go_ret2
    exact ⟨rfl, rfl⟩

theorem part_in (d g : Nat) (k c : Nat) (n : Nat) (w : World) (h : w.cell? ⟨d, 1, none⟩ = some (.slice (some ⟨g, 0, none⟩) (k * 256) c)) (hk2 : k ≤ 2048) (hn : n < k) (hc : k * 256 ≤ c) :
    Calls Try.prog 40 #[.pointer (some ⟨d, 0, none⟩), .int .i64 n] w fun e w' => e = .returned (.tuple #[.slice (some ⟨g, n * 256, none⟩) 256 256, .int .i64 0]) ∧ w = w' := by
  have hs := sectors_any d (some ⟨g, 0, none⟩) (k * 256) c w h (by omega)
  rw [Nat.mul_div_cancel k (by omega : 0 < 256)] at hs
  have H := Lib.hid hs; clear hs
  have h0 : ((k : Int) == 0) = false := by simp; omega
  have hn0 : ¬ (n : Int) < 0 := by omega
  have hnk : ¬ (k : Int) ≤ n := by omega
  go_enter Try.func40, Try.ntmps40
  go_wp2_with (go_at_call 13; refine (H.out).mono ?_; rintro e w' ⟨rfl, rfl⟩)
  go_ret2
  refine ⟨?_, rfl⟩
  show Ending.returned (.tuple #[.slice _ ((n + 1) * 256 - n * 256) ((n + 1) * 256 - n * 256), .int .i64 0]) = _
  rw [show (n + 1) * 256 - n * 256 = 256 from by omega]

/-- What a disk holds. -/
structure Dsk where
  first : List UInt8
  now : List UInt8
  ev : List (Int × Int × Int)
  wrote : List UInt8

def E3 (l : List (Int × Int × Int)) : List Value := l.flatMap fun x => [.int .i64 x.1, .int .i64 x.2.1, .int .i64 x.2.2]

/-- A disk in memory: its blocks lie in F. -/
def DiskAt (w : World) (F : Nat → Prop) (d : Nat) (S : Dsk) : Prop := ∃ vf vn ve vw,
  F d ∧ Blk w d 29 [vf, vn, ve, vw] ∧ w.ownsRow 0 5 1 vf S.first.length (B8 S.first) ∧ w.ownsRow 0 5 1 vn S.now.length (B8 S.now) ∧ w.ownsRow 0 87 3 ve S.ev.length (E3 S.ev) ∧ w.ownsRow 0 5 1 vw S.wrote.length (B8 S.wrote) ∧
  (∀ b, vf.ownBlock = some b ∨ vn.ownBlock = some b ∨ ve.ownBlock = some b ∨ vw.ownBlock = some b → F b) ∧
  (∀ b, vf.ownBlock = some b → vn.ownBlock ≠ some b ∧ vw.ownBlock ≠ some b) ∧ (∀ b, vn.ownBlock = some b → vw.ownBlock ≠ some b) ∧ (∀ b, F b → b < w.heap.size)

/-- Disk.Read -/
theorem read_none (P : Value) (n : Int) (w : World) (h : Calls Try.prog 40 #[P, .int .i64 n] w fun e w' => e = .returned (.tuple #[.slice none 0 0, .int .i64 1]) ∧ w = w') :
    Calls Try.prog 11 #[P, .int .i64 n] w fun e w' => e = .returned (.tuple #[.slice none 0 0, .int .i64 1]) ∧ Below w.heap.size w w' := by
  have H := Lib.hid h; clear h
  go_enter Try.func11, Try.ntmps11
  go_wp2_with fail
  refine (H.out).mono ?_; rintro e w' ⟨rfl, rfl⟩
  go_wp2_with fail
  refine (clone_any none 0 0 [] (fun _ => True) _ (Sl.nil_ _ _ _) (by omega)).mono ?_
  rintro e w' ⟨A', c', rfl, ho, hb, _, hn⟩
  obtain ⟨rfl, rfl⟩ := hn rfl
  go_wp2_with fail
  go_ret2
  exact ⟨rfl, hb⟩

theorem E3_length (l : List (Int × Int × Int)) : (E3 l).length = l.length * 3 := by
  induction l with
  | nil => rfl
  | cons x l ih => simp only [E3, List.flatMap_cons, List.length_append, List.length_cons, List.length_nil] at ih ⊢; omega

theorem B8_splice (l : List UInt8) (o : Nat) (b : List UInt8) : B8 (splice l o b) = splice (B8 l) o (B8 b) := by
  simp [splice, B8_append, B8_take, B8_drop, B8_length]
theorem E3_append (l k : List (Int × Int × Int)) : E3 (l ++ k) = E3 l ++ E3 k := by simp [E3]

set_option maxHeartbeats 1000000 in
theorem write_ok (w : World) (F G : Nat → Prop) (d k n : Nat) (S : Dsk) (A : Option Addr) (c : Nat) (bs : List UInt8) (h : DiskAt w F d S) (hk1 : 1 ≤ k) (hk2 : k ≤ 2048) (hnow : S.now.length = k * 256) (hn : n < k)
    (hb : Sl w G 1 (.slice A 256 c) 256 (B8 bs)) (hG : ∀ b, F b → ¬ G b) (hev : S.ev.length ≤ 1000000000) (hwr : S.wrote.length ≤ 1000000000000) :
    Calls Try.prog 14 #[.pointer (some ⟨d, 0, none⟩), .int .i64 n, .slice A 256 c] w fun e w' => e = .returned (.int .i64 0) ∧
      DiskAt w' (fun b => F b ∨ (w.heap.size ≤ b ∧ b < w'.heap.size)) d ⟨S.first, splice S.now (n * 256) bs, S.ev ++ [((n : Int), 1, (S.wrote.length : Int))], S.wrote ++ bs⟩ ∧ Mod F w w' := by
  obtain ⟨first, now, ev, wrote⟩ := S
  simp only at hnow hev hwr ⊢
  obtain ⟨vf, vn, ve, vw, hFd, hd, hof, hon, hoe, how, hFb, hd1, hd2, hlt⟩ := h
  have hon' := hon
  rw [hnow] at hon'
  obtain ⟨g, cap, rfl, _, hgl⟩ := hon'.form (by omega)
  obtain ⟨_, _, _, hc0, _⟩ := own_form hon'
  obtain ⟨Ae, ce, rfl, _, _⟩ := own_form hoe
  obtain ⟨Aw, cw, rfl, _, _⟩ := own_form how
  have c1 : w.cell? ⟨d, 1, none⟩ = some (.slice (some ⟨g, 0, none⟩) (k * 256) cap) := by rw [hd.cell]; simp
  have hcap : k * 256 ≤ cap := by
    rcases hon'.2 with ⟨h, _⟩ | ⟨g', cap', cur, hv, _, _, hc, _⟩
    · simp at h
    · simp only [Value.slice.injEq, Option.some.injEq, Addr.mk.injEq, and_true, true_and] at hv
      omega
  have hp := part_in d g k cap n w c1 hk2 hn hcap
  have HP := Lib.hid hp
  have HD := Lib.hid (And.intro hd (And.intro hof (And.intro hon (And.intro hoe how))))
  have HX := Lib.hid (And.intro hFb (And.intro hd1 (And.intro hd2 (And.intro hlt (And.intro hnow hon')))))
  have HB := Lib.hid (And.intro hb hG)
  have hdlt : d < w.heap.size := hd.lt
  clear hp hd hof hon hoe how hFb hd1 hd2 hlt hnow hon' hb hG c1
  set_option maxRecDepth 100000 in
  go_enter Try.func14, Try.ntmps14
  set_option maxRecDepth 100000 in
  go_wp2_with fail
  refine (HP.out).mono ?_; rintro e w' ⟨rfl, rfl⟩
  set_option maxRecDepth 100000 in
  go_wp2_with (refine wpList_copy_at (P := Try.prog) (w := w) rfl (.tmp 23) (.tmp 24) 22 22 rfl 5 Try.underlying22 (by kernel_rfl) g (k * 256) cap (B8 now) HX.out.2.2.2.2.2 (n * 256) 256 256 rfl G (.slice A 256 c) rfl 256 (B8 bs) HB.out.1 (B8_one bs) (by omega) (by omega) ?_; intro w1 hon1 hm1; have HH := Lib.hid (And.intro hon1 hm1); clear hon1 hm1)
  have hdg : d ≠ g := by
    have := own_blk_ne HX.out.2.2.2.2.2 HD.out.1 (by decide)
    simpa [Value.ownBlock] using Ne.symm (fun e => this (by rw [e]; rfl))
  have hd1 : Blk w1 d 29 _ := HD.out.1.mod HH.out.2 hdg
  have c2 : w1.cell? ⟨d, 2, none⟩ = some (.slice Ae ev.length ce) := by rw [hd1.cell]; rfl
  have c3 : w1.cell? ⟨d, 3, none⟩ = some (.slice Aw wrote.length cw) := by rw [hd1.cell]; rfl
  have f2 := hd1.frozen 2
  have hlt1 : d < w1.heap.size := hd1.lt
  have H1 := Lib.hid hd1; clear hd1
  obtain ⟨hFb, hdA, hdB, hlt, hnow, hon'⟩ := HX.out
  obtain ⟨hd, hof, hon, hoe, how⟩ := HD.out
  -- the rows in w1
  have H2 := Lib.hid (own_mod hoe HH.out.2 (fun b hb e => own_ne hon' hoe (by decide) g rfl (by rw [← e]; exact hb)))
  have H3 := Lib.hid (own_mod how HH.out.2 (fun b hb e => hdB g rfl (by rw [← e]; exact hb)))
  have H4 := Lib.hid (own_mod hof HH.out.2 (fun b hb e => (hdA b hb).1 (by rw [e]; rfl)))
  have hne : (Value.slice Ae ev.length ce).ownBlock ≠ some d := own_blk_ne hoe hd (by decide)
  have hnw : (Value.slice Aw wrote.length cw).ownBlock ≠ some d := own_blk_ne how hd (by decide)
  have hnf : vf.ownBlock ≠ some d := own_blk_ne hof hd (by decide)
  have hnn : (Value.slice (some ⟨g, 0, none⟩) (k * 256) cap).ownBlock ≠ some d := own_blk_ne hon hd (by decide)
  have hew := own_ne how hoe (by decide)
  have hfe := own_ne hof hoe (by decide)
  have hme := own_ne hon' hoe (by decide)
  have HN := Lib.hid (And.intro hne (And.intro hnw (And.intro hnf (And.intro hnn (And.intro hew (And.intro hfe hme))))))
  have HM1 : Hid (Mod F w w1) := HH.out.2.mono (fun i _ hi => hFb i (.inr (.inl (by rw [hi]; rfl))))
  have hevr := Lib.hid hev; have hwrr := Lib.hid hwr
  clear hev hwr hFb hdA hdB hlt hnow hon' hd hof hon hoe how hne hnw hnf hnn hew hfe hme
  set_option maxRecDepth 100000 in
  go_upto_region 7 with fail
  try simp only [Act.put, List.setIfInBounds_toArray, List.set_cons_zero, List.set_cons_succ]
  set_option maxRecDepth 100000 in
  go_cut [] (fun w3 => ∃ Ae' ce', Blk w3 d 29 [vf, Value.slice (some ⟨g, 0, none⟩) (k * 256) cap, .slice Ae' (ev.length + 1) ce', Value.slice Aw wrote.length cw] ∧
      w3.ownsRow 0 87 3 (.slice Ae' (ev.length + 1) ce') (ev.length + 1) (E3 ev ++ [.int .i64 n, .int .i64 1, .int .i64 wrote.length]) ∧
      ((Value.slice Ae' (ev.length + 1) ce').ownBlock = (Value.slice Ae ev.length ce).ownBlock ∨ ∃ b, (Value.slice Ae' (ev.length + 1) ce').ownBlock = some b ∧ w1.heap.size ≤ b) ∧
      Mod (fun i => (Value.slice Ae ev.length ce).ownBlock = some i ∨ i = d) w1 w3)
  case first =>
    set_option maxRecDepth 100000 in
    go_region_law (refine step_app _ rfl (.tmp 30) (.tmp 38) 27 rfl 87 _ 3 24 Try.underlying27 info87 rfl (by omega) (by omega) (.slice Ae ev.length ce) ev.length (E3 ev) rfl ?_ (fun i => i = w1.heap.size) (.slice (some ⟨w1.heap.size, 0, none⟩) 1 1) 1 [.int .i64 n, .int .i64 1, .int .i64 wrote.length] rfl ?_ ?_ ?_ ?_
                   exact H2.out.alloc _
                   exact Sl.of_blk (Blk.new w1 87 #[.int .i64 n, .int .i64 1, .int .i64 wrote.length]) 3 1 1 rfl (by omega)
                   simp [Value.oneCell']
                   (have := hevr.out; omega)
                   intro Ae' ce' w2 hoe2 hg2 hat2 _
                   have hm2 : Mod (fun i => (Value.slice Ae ev.length ce).ownBlock = some i) w1 w2 := (((Mod.refl _ _).alloc _).drew).grown hg2 (fun k hk _ => hk)
                   have hd2 : Blk w2 d 29 _ := H1.out.mod hm2 (fun e => HN.out.1 e)
                   have c22 : w2.cell? ⟨d, 2, none⟩ = some (.slice Ae ev.length ce) := by rw [hd2.cell]; rfl
                   have f22 := hd2.frozen 2
                   have HW2 := Lib.hid (And.intro hd2 (And.intro hoe2 (And.intro hm2 hat2)))
                   clear hd2 hoe2 hg2 hat2 hm2)
    all_goals
      go_wp2_with fail
      go_meet
      obtain ⟨hd2, hoe2, hm2, hat2⟩ := HW2.out
      refine ⟨Ae', ce', hd2.set_ 2 _, own_setCell hoe2 (own_blk_ne hoe2 hd2 (by decide)) _, ?_, (hm2.mono (fun _ _ h => .inl h)).setCell (fun _ => .inr rfl) _⟩
      rcases hat2 with e | e
      · exact .inl e
      · exact .inr ⟨_, e, by simp⟩
  case rest =>
  obtain ⟨Ae', ce', H5, hoe3, hat3, hm3⟩ := hcut
  obtain ⟨w3, rfl⟩ : ∃ w3, w3 = wc := ⟨_, rfl⟩
  clear c2 c3 f2 hlt1
  have c3 : w3.cell? ⟨d, 3, none⟩ = some (.slice Aw wrote.length cw) := by rw [H5.cell]; rfl
  have how3 := own_mod H3.out hm3 (fun b hb e => by rcases e with e | e; exact HN.out.2.2.2.2.1 b hb e; exact HN.out.2.1 (by rw [hb, e]))
  have hof3 := own_mod H4.out hm3 (fun b hb e => by rcases e with e | e; exact HN.out.2.2.2.2.2.1 b hb e; exact HN.out.2.2.1 (by rw [hb, e]))
  have hon3 := own_mod HH.out.1 hm3 (fun b hb e => by rcases e with e | e; exact HN.out.2.2.2.2.2.2 b hb e; exact HN.out.2.2.2.1 (by rw [hb, e]))
  have hM3 : Mod F w w3 := HM1.out.trans hm3 (fun i _ h => by rcases h with h | h; exact HX.out.1 i (.inr (.inr (.inl h))); exact h ▸ hFd)
  have hb3 := HB.out.1.mod (by omega) hM3 (fun i hi hF => HB.out.2 i hF hi)
  have hlt3 : d < w3.heap.size := H5.lt
  have HH3 := Lib.hid (And.intro H5 (And.intro hoe3 (And.intro how3 (And.intro hof3 (And.intro hon3 (And.intro hM3 (And.intro hb3 (And.intro hat3 hm3))))))))
  clear H5 hoe3 how3 hof3 hon3 hM3 hb3 hat3 hm3
  set_option maxRecDepth 100000 in
  go_wp2_with (at_builtin
               refine wpList_app _ rfl (.tmp 46) (.tmp 47) 22 rfl 5 (.int .u8 0) 1 1 Try.underlying22 info5 rfl (by omega) (by omega) (.slice Aw wrote.length cw) wrote.length (B8 wrote) rfl
                   HH3.out.2.2.1 G (.slice A 256 c) 256 (B8 bs) rfl HH3.out.2.2.2.2.2.2.1 (B8_one bs) (by have := hwrr.out; omega) ?_
               intro Aw' cw' w4 how4 hg4 hat4 _
               have hm4 : Mod (fun i => (Value.slice Aw wrote.length cw).ownBlock = some i) w3 w4 := (Mod.refl _ _).grown hg4 (fun k hk _ => hk)
               have hd4 : Blk w4 d 29 _ := HH3.out.1.mod hm4 (fun e => HN.out.2.1 e)
               have c43 : w4.cell? ⟨d, 3, none⟩ = some (.slice Aw wrote.length cw) := by rw [hd4.cell]; rfl
               have f43 := hd4.frozen 3
               have HW4 := Lib.hid (And.intro hd4 (And.intro how4 (And.intro hm4 hat4)))
               clear hd4 how4 hg4 hat4 hm4)
  go_ret
  obtain ⟨H5, hoe3, how3, hof3, hon3, hM3, hb3, hat3, hm3⟩ := HH3.out
  obtain ⟨hd4, how4, hm4, hat4⟩ := HW4.out
  have hd5 := hd4.set_ 3 (.slice Aw' (wrote.length + 256) cw')
  have hM4 : Mod F w (w4.setCell ⟨d, 3, none⟩ (.slice Aw' (wrote.length + 256) cw')) :=
    (hM3.trans hm4 (fun i _ h => HX.out.1 i (.inr (.inr (.inr h))))).setCell (fun _ => hFd) _
  have hbl : bs.length = 256 := by have := HB.out.1.1; simpa [B8] using this
  obtain ⟨hFb, hdA, hdB, hlt, hnow, _⟩ := HX.out
  obtain ⟨nd, nw, nf, nn, hew, hfe, hme⟩ := HN.out
  have hwe : ∀ b, (Value.slice Ae' (ev.length + 1) ce').ownBlock = some b → (Value.slice Aw wrote.length cw).ownBlock ≠ some b := own_ne hoe3 how3 (by decide)
  have hsz3 := hM3.size
  have hsz4 := hm4.size
  have hd5lt : ∀ b, b < w4.heap.size → b < (w4.setCell ⟨d, 3, none⟩ (.slice Aw' (wrote.length + 256) cw')).heap.size := fun b h => by simpa using h
  have lf : ∀ b, vf.ownBlock = some b → b < w.heap.size := fun b hb => hlt b (hFb b (.inl hb))
  have ln : ∀ b, (Value.slice (some ⟨g, 0, none⟩) (k * 256) cap).ownBlock = some b → b < w.heap.size := fun b hb => hlt b (hFb b (.inr (.inl hb)))
  have fw : ∀ b, (Value.slice Aw' (wrote.length + 256) cw').ownBlock = some b → (Value.slice Aw wrote.length cw).ownBlock = some b ∨ w.heap.size ≤ b := by
    intro b hb
    rcases hat4 with e | e
    · exact .inl (by rw [← e]; exact hb)
    · rw [e] at hb; injection hb with hb; exact .inr (by omega)
  have fe : ∀ b, (Value.slice Ae' (ev.length + 1) ce').ownBlock = some b → (Value.slice Ae ev.length ce).ownBlock = some b ∨ w.heap.size ≤ b := by
    intro b hb
    rcases hat3 with e | e
    · exact .inl (by rw [← e]; exact hb)
    · obtain ⟨b', e, hle⟩ := e
      rw [e] at hb; injection hb with hb; have := HM1.out.size; exact .inr (by omega)
  have hof4 := own_setCell (own_mod hof3 hm4 (fun b hb => (hdA b hb).2)) (p := ⟨d, 3, none⟩) nf (.slice Aw' (wrote.length + 256) cw')
  have hon4 := own_setCell (own_mod hon3 hm4 (fun b hb => hdB b hb)) (p := ⟨d, 3, none⟩) nn (.slice Aw' (wrote.length + 256) cw')
  have hoe4 := own_setCell (own_mod hoe3 hm4 hwe) (p := ⟨d, 3, none⟩) (own_blk_ne hoe3 H5 (by decide)) (.slice Aw' (wrote.length + 256) cw')
  have how5 := own_setCell how4 (p := ⟨d, 3, none⟩) (own_blk_ne how4 hd4 (by decide)) (.slice Aw' (wrote.length + 256) cw')
  refine ⟨rfl, ⟨vf, _, _, _, .inl hFd, hd5, hof4, ?_, ?_, ?_, ?_, ?_, ?_, ?_⟩, hM4⟩
  · rw [B8_splice]
    have : (splice now (n * 256) bs).length = k * 256 := by rw [length_splice _ _ _ (by rw [hnow]; omega), hnow]
    rw [this]; exact hon4
  · rw [E3_append, List.length_append]; exact hoe4
  · rw [B8_append, List.length_append, hbl]; exact how5
  · intro b hb
    rcases hb with hb | hb | hb | hb
    · exact .inl (hFb b (.inl hb))
    · exact .inl (hFb b (.inr (.inl hb)))
    · rcases fe b hb with h | h
      · exact .inl (hFb b (.inr (.inr (.inl h))))
      · exact .inr ⟨h, own_lt' hoe4 hb⟩
    · rcases fw b hb with h | h
      · exact .inl (hFb b (.inr (.inr (.inr h))))
      · exact .inr ⟨h, own_lt' how5 hb⟩
  · intro b hb
    refine ⟨(hdA b hb).1, fun e => ?_⟩
    rcases fw b e with h | h
    · exact (hdA b hb).2 h
    · have := lf b hb; omega
  · intro b hb e
    rcases fw b e with h | h
    · exact hdB b hb h
    · have := ln b hb; omega
  · intro b hb
    rcases hb with hb | hb
    · have := hlt b hb; exact hd5lt b (by omega)
    · exact hb.2

#print axioms write_ok
end Go.Proofs.Ytjdobjcbmmdjeaa
