/- WalPlays: what the loop keeps, act by act; calls that answer at once. -/
import Derived.Test.YtjdobjcbmmdjeaaM2
import Derived.Test.YtjdobjcbmmdjeaaL4
namespace Go.Proofs.Ytjdobjcbmmdjeaa
open Go.RowKit

def WPE (w0 wr : World) (p at_ s e : Nat) : Prop := ∃ d r j q F G FJ GQ S R J Q, WPS w0 wr p d r j q at_ s F G FJ GQ S R J Q ∧ S.ev.length ≤ 40 + 100 * e ∧ S.wrote.length ≤ 10000 + 20000 * e
theorem WPE.later {w0 wr w' : World} {p at_ s e : Nat} (h : WPE w0 wr p at_ s e) (hb : Below wr.heap.size wr w') : WPE w0 w' p at_ s e := by
  obtain ⟨d, r, j, q, F, G, FJ, GQ, S, R, J, Q, h, h1, h2⟩ := h
  exact ⟨d, r, j, q, F, G, FJ, GQ, S, R, J, Q, h.later hb, h1, h2⟩
theorem WPE.more {w0 wr : World} {p at_ s e e' : Nat} (h : WPE w0 wr p at_ s e) (he : e ≤ e') : WPE w0 wr p at_ s e' := by
  obtain ⟨d, r, j, q, F, G, FJ, GQ, S, R, J, Q, h, h1, h2⟩ := h
  exact ⟨d, r, j, q, F, G, FJ, GQ, S, R, J, Q, h, by omega, by omega⟩
section
variable {w0 wr w1 w2 : World} {p d r j q at_ s e : Nat} {F G FJ GQ : Nat → Prop} {S : Dsk} {R : RDsk} {J : Jr} {Q : QJr}
theorem cm_bounds {J : Jr} {S : Dsk} (hg : S.Good 12) (hk : ∀ n ∈ J.put.map (·.1), 0 ≤ n ∧ n < (12 : Int)) (hb : ∀ n b, mget J.put n = some b → b.length = 256) (ha : J.at_ + J.put.length < 12) : (cmDsk S J).ev.length ≤ S.ev.length + 100 ∧ (cmDsk S J).wrote.length ≤ S.wrote.length + 20000 := by
  unfold cmDsk
  split
  · omega
  · obtain ⟨_, h1, h2⟩ := commitS_facts (k := 12) hg hk hb ha (by omega)
    omega
set_option maxRecDepth 100000 in
theorem WPS.commit (h : WPS w0 wr p d r j q at_ s F G FJ GQ S R J Q) (hs : 2 ≤ s) (has : at_ + s ≤ 12) (hj : JrAt w1 FJ j d ⟨J.at_, J.sec, []⟩) (hd : DiskAt w1 (fun b => F b ∨ (wr.heap.size ≤ b ∧ b < w1.heap.size)) d (cmDsk S J)) (hm1 : Mod (fun b => F b ∨ FJ b) wr w1)
    (hq : QAt w2 GQ q r ⟨Q.at_, Q.sec, []⟩) (hr : RefAt w2 (fun b => G b ∨ (w1.heap.size ≤ b ∧ b < w2.heap.size)) r (rcm R Q.at_ Q.l)) (hm2 : Mod (fun b => G b ∨ GQ b) w1 w2) (he : S.ev.length ≤ 40 + 100 * e) (hw : S.wrote.length ≤ 10000 + 20000 * e) : WPE w0 w2 p at_ s (e + 1) := by
  have hlen : J.at_ + J.put.length < 12 := by have := h.len; have := h.ja; omega
  have hrg : RG (cmDsk S J) (rcm R Q.at_ Q.l) 12 := by
    have := h.both.rg.commit h.both.jq h.keys h.bytes hlen (by have := h.len; omega)
    rwa [h.ja, ← h.qa] at this
  have hb := cm_bounds h.both.rg.good h.keys h.bytes hlen
  have hz : 100 + (40 + 100 * e) ≤ 40 + 100 * (e + 1) := by omega
  have hz2 : 20000 + (10000 + 20000 * e) ≤ 10000 + 20000 * (e + 1) := by omega
  have hz3 : (cmDsk S J).ev.length ≤ 40 + 100 * (e + 1) := by have := hb.1; omega
  have hz4 : (cmDsk S J).wrote.length ≤ 10000 + 20000 * (e + 1) := by have := hb.2; generalize (cmDsk S J).wrote.length = x at this ⊢; omega
  refine ⟨d, r, j, q, _, _, _, _, _, _, _, _, h.step hm1 hd hj (fun b hb => hb.imp id (fun h => h.1)) (fun b hb => .inl hb) (fun b hb hf => hb.elim (fun hb => (h.fg b hb).2.1 hf) (fun hb => by have := h.both.jr.lt' hf; omega)) hm2 hr hq (fun b hb => hb.imp id (fun h => h.1)) (fun b hb => .inl hb)
    (fun b hb hf => hb.elim (fun hb => (h.gj b hb).2 hf) (fun hb => by have := h.both.qr.lt hf; have := hm1.size; omega)) hrg JQ.nil h.ja h.js h.qa h.qs (by simp) (Nat.zero_le _) (fun n b h => by simp [mget] at h), hz3, hz4⟩
theorem WPS.wall (h : WPS w0 wr p d r j q at_ s F G FJ GQ S R J Q) (z : Int) (bs : List UInt8) (hbs : bs.length = 256) (hd : DiskAt w1 (fun b => F b ∨ (wr.heap.size ≤ b ∧ b < w1.heap.size)) d (wDsk S 12 256 z bs)) (hm1 : Mod F wr w1)
    (hr : RefAt w2 (fun b => G b ∨ (w1.heap.size ≤ b ∧ b < w2.heap.size)) r (wRef R 12 256 z bs)) (hm2 : Mod G w1 w2) (he : S.ev.length ≤ 40 + 100 * e) (hw : S.wrote.length ≤ 10000 + 20000 * e) : WPE w0 w2 p at_ s (e + 1) := by
  obtain ⟨hr1, hr2, hr3, _⟩ := h.both.rg.rel.wAll h.both.rg.good 256 z bs hbs
  have hwl : (wDsk S 12 256 z bs).wrote.length ≤ S.wrote.length + 256 := by
    unfold wDsk
    split
    · show (S.wrote ++ bs).length ≤ _
      rw [List.length_append, hbs]
      exact Nat.le_refl _
    · exact Nat.le_add_right _ _
  have hj := h.both.jr.mod hm1 (fun b hb hf => (h.fg b hf).2.1 hb)
  have hq := (h.both.qr.mod hm1 (fun b hb hf => (h.fg b hf).2.2 hb)).mod hm2 (fun b hb hg => (h.gj b hg).2 hb)
  have e1 : (wDsk S 12 256 z bs).ev.length ≤ 40 + 100 * (e + 1) := Nat.le_trans hr3 (by clear hr3 hr2 hr1 hd; omega)
  have e2 : (wDsk S 12 256 z bs).wrote.length ≤ 10000 + 20000 * (e + 1) := Nat.le_trans hwl (by clear hr3 hr2 hr1 hd hwl; omega)
  exact ⟨d, r, j, q, _, _, _, _, _, _, _, _, h.step (hm1.mono (fun b _ hb => .inl hb)) hd hj (fun b hb => hb.imp id (fun h => h.1)) (fun b hb => .inl hb) (fun b hb hf => hb.elim (fun hb => (h.fg b hb).2.1 hf) (fun hb => by have := h.both.jr.lt' hf; omega)) (hm2.mono (fun b _ hb => .inl hb)) hr hq (fun b hb => hb.imp id (fun h => h.1)) (fun b hb => .inl hb)
    (fun b hb hf => hb.elim (fun hb => (h.gj b hb).2 hf) (fun hb => by have := h.both.qr.lt hf; have := hm1.size; omega)) ⟨hr1, hr2⟩ h.both.jq h.ja h.js h.qa h.qs h.keys h.len h.bytes, e1, e2⟩
theorem WPS.free {w' : World} {bi : Nat} (h : WPS w0 wr p d r j q at_ s F G FJ GQ S R J Q) (hm : Mod (fun b => b = bi) wr w') (hn : ¬ (F bi ∨ G bi ∨ FJ bi ∨ GQ bi)) (hp : p ≠ bi) (hlo : w0.heap.size ≤ bi) : WPS w0 w' p d r j q at_ s F G FJ GQ S R J Q :=
  ⟨h.below.trans (hm.below h.below.size (fun b hb => by omega)), Blk.mod h.pair hm hp, ⟨h.both.disk.mod hm (fun b hb e => hn (.inl (e ▸ hb))), h.both.ref.mod hm (fun b hb e => hn (.inr (.inl (e ▸ hb)))), h.both.jr.mod hm (fun b hb e => hn (.inr (.inr (.inl (e ▸ hb))))), h.both.qr.mod hm (fun b hb e => hn (.inr (.inr (.inr (e ▸ hb))))), h.both.rg, h.both.jq⟩,
    h.ja, h.js, h.qa, h.qs, h.keys, h.len, h.bytes, h.lowp, h.low, h.fg, h.gj, h.jq⟩
theorem WPS.put {w3 : World} {bi : Nat} (h : WPS w0 wr p d r j q at_ s F G FJ GQ S R J Q) (hs : 2 ≤ s) (z : Int) (bs : List UInt8) (hbs : bs.length = 256) (hj : JrAt w1 (fun b => FJ b ∨ (wr.heap.size ≤ b ∧ b < w1.heap.size)) j d (pJr J 12 256 z bs)) (hm1 : Mod FJ wr w1)
    (hq : QAt w2 (fun b => GQ b ∨ (w1.heap.size ≤ b ∧ b < w2.heap.size)) q r (qPut Q 12 z bs)) (hm2 : Mod GQ w1 w2) (hm3 : Mod (fun b => b = bi) w2 w3) (hn : ¬ (F bi ∨ G bi ∨ FJ bi ∨ GQ bi)) (hp : p ≠ bi) (hlo : w0.heap.size ≤ bi) (hbi : bi < wr.heap.size) (he : S.ev.length ≤ 40 + 100 * e) (hw : S.wrote.length ≤ 10000 + 20000 * e) : WPE w0 w3 p at_ s (e + 1) := by
  obtain ⟨k1, k2, k3⟩ := pJr_facts (z := z) 12 bs hbs h.ja h.js hs h.keys h.len h.bytes
  have hr2 : RefAt w2 G r R := (h.both.ref.mod hm1 (fun b hb e => (h.gj b hb).1 e)).mod hm2 (fun b hb e => (h.gj b hb).2 e)
  have hsz := hm1.size
  have hst := h.step (hm1.mono (fun b _ hb => .inr hb)) (h.both.disk.mod hm1 (fun b hb e => (h.fg b hb).2.1 e)) hj (fun b hb => .inl hb) (fun b hb => hb.imp id (fun h => h.1)) (fun b hb hf => hf.elim (fun hf => (h.fg b hb).2.1 hf) (fun hf => by have := h.both.disk.lt hb; omega))
    (hm2.mono (fun b _ hb => .inr hb)) hr2 hq (fun b hb => .inl hb) (fun b hb => hb.imp id (fun h => h.1)) (fun b hb hf => hf.elim (fun hf => (h.gj b hb).2 hf) (fun hf => by have := h.both.ref.lt hb; omega)) h.both.rg (put_alike h.both.jq 12 h.ja h.js h.qa h.qs bs)
    ((pJr_at 12 bs).1.trans h.ja) ((pJr_at 12 bs).2.trans h.js) ((qPut_at 12 bs).1.trans h.qa) ((qPut_at 12 bs).2.trans h.qs) k1 k2 k3
  have e1 : S.ev.length ≤ 40 + 100 * (e + 1) := by omega
  have e2 : S.wrote.length ≤ 10000 + 20000 * (e + 1) := by omega
  refine ⟨d, r, j, q, _, _, _, _, _, _, _, _, hst.free hm3 (fun hb => ?_) hp hlo, e1, e2⟩
  rcases hb with hb | hb | hb | hb
  · exact hn (.inl hb)
  · exact hn (.inr (.inl hb))
  · exact hb.elim (fun hb => hn (.inr (.inr (.inl hb)))) (fun hb => by omega)
  · exact hb.elim (fun hb => hn (.inr (.inr (.inr hb)))) (fun hb => by omega)
theorem WPS.abort (h : WPS w0 wr p d r j q at_ s F G FJ GQ S R J Q) (hj : JrAt w1 FJ j d ⟨J.at_, J.sec, []⟩) (hm1 : Mod FJ wr w1) (hq : QAt w2 GQ q r ⟨Q.at_, Q.sec, []⟩) (hm2 : Mod GQ w1 w2) (he : S.ev.length ≤ 40 + 100 * e) (hw : S.wrote.length ≤ 10000 + 20000 * e) : WPE w0 w2 p at_ s (e + 1) := by
  have hr2 : RefAt w2 G r R := (h.both.ref.mod hm1 (fun b hb e => (h.gj b hb).1 e)).mod hm2 (fun b hb e => (h.gj b hb).2 e)
  refine ⟨d, r, j, q, _, _, _, _, _, _, _, _, h.step (hm1.mono (fun b _ hb => .inr hb)) (h.both.disk.mod hm1 (fun b hb e => (h.fg b hb).2.1 e)) hj (fun b hb => .inl hb) (fun b hb => .inl hb) (fun b hb => (h.fg b hb).2.1) (hm2.mono (fun b _ hb => .inr hb)) hr2 hq (fun b hb => .inl hb) (fun b hb => .inl hb) (fun b hb => (h.gj b hb).2) h.both.rg JQ.nil h.ja h.js h.qa h.qs (by simp) (Nat.zero_le _) (fun n b h => by simp [mget] at h), by omega, by omega⟩
theorem WPS.loses (h : WPS w0 wr p d r j q at_ s F G FJ GQ S R J Q) {d' r' j' q' : Nat} {F' G' FJ' GQ' : Nat → Prop} {S' : Dsk} {R' : RDsk} (hp : PairAt w1 p d' r' j' q') (hB : Both w1 d' r' j' q' 12 F' G' FJ' GQ' S' R' ⟨at_, s, []⟩ ⟨at_, s, []⟩) (he : S'.ev.length ≤ 40) (hw : S'.wrote.length ≤ 10000) (hm : Mod (fun b => b = p) wr w1)
    (hlow : ∀ b, F' b ∨ G' b ∨ FJ' b ∨ GQ' b → wr.heap.size ≤ b) (h1 : ∀ b, F' b → ¬ G' b ∧ ¬ FJ' b ∧ ¬ GQ' b) (h2 : ∀ b, G' b → ¬ FJ' b ∧ ¬ GQ' b) (h3 : ∀ b, FJ' b → ¬ GQ' b) : WPE w0 w1 p at_ s (e + 1) := by
  have hs := h.below.size
  have hpl := (PairAt.cells h.pair).2.2.2.2
  exact ⟨d', r', j', q', F', G', FJ', GQ', S', R', _, _, ⟨h.below.trans (hm.below hs (fun b hb => by have := h.lowp; omega)), hp, hB, rfl, rfl, rfl, rfl, by simp, Nat.zero_le _, fun n b h => by simp [mget] at h, h.lowp, fun b hb => by have := hlow b hb; exact ⟨by omega, by omega⟩, h1, h2, h3⟩, Nat.le_trans he (Nat.le_add_right 40 _), Nat.le_trans hw (Nat.le_add_right 10000 _)⟩
end
theorem QAt.nilL {w : World} {F : Nat → Prop} {q r : Nat} {Q : QJr} (h : QAt w F q r Q) : QAt (w.setCell ⟨q, 3, none⟩ (.slice none 0 0)) F q r ⟨Q.at_, Q.sec, []⟩ ∧ Mod F w (w.setCell ⟨q, 3, none⟩ (.slice none 0 0)) ∧ w.frozen? ⟨q, 3, none⟩ = false ∧ q < w.heap.size ∧ ∃ v, w.cell? ⟨q, 3, none⟩ = some v := by
  obtain ⟨k1, k2⟩ := h.setL (L := []) (A' := none) (c' := 0) ⟨by simp [EV], .inl ⟨rfl, rfl⟩⟩
  have hlt := fun b => k1.lt (b := b)
  refine ⟨k1.mono (fun b hb => hb.elim id (fun h => by simp [Value.ownBlock] at h)) (fun b hb => hlt b (.inl hb)), k2, ?_, ?_, ?_⟩
  · obtain ⟨A, c, h1, h2, _⟩ := h
    exact h2.frozen 3
  · obtain ⟨A, c, h1, h2, _⟩ := h
    exact h2.lt
  · obtain ⟨A, c, h1, h2, _⟩ := h
    exact ⟨_, h2.cell 3⟩
theorem names4_ok (w : World) : Calls Try.prog 34 #[] w fun e w' => e = .returned (.bool true) ∧ w = w' := by
  go_enter Try.func34, Try.ntmps34
  go_wp2_with fail
  go_ret
  exact ⟨rfl, rfl⟩
set_option maxRecDepth 100000 in
set_option maxHeartbeats 1000000 in
theorem open_bad (w : World) (F : Nat → Prop) (d k : Nat) (at_ sec_ : Int) (S : Dsk) (hd : DiskAt w F d S) (hk1 : 1 ≤ k) (hk : k ≤ 2048) (hnow : S.now.length = k * 256) (hat : -9223372036854775808 ≤ at_ ∧ at_ ≤ 9223372036854775807) (hb : sec_ < 2 ∨ 31 < sec_ ∨ at_ < 0 ∨ (k : Int) - sec_ < at_) :
    Calls Try.prog 32 #[.pointer (some ⟨d, 0, none⟩), .int .i64 at_, .int .i64 sec_] w fun e w' => e = .returned (.tuple #[.pointer none, .int .i64 2]) ∧ w = w' := by
  have HS := Lib.hid (hd.sectors hk hnow)
  have hk0 : ((k : Int) == 0) = false := by simp; omega
  clear hd hnow
  by_cases h1 : sec_ < 2
  · clear hb
    go_enter Try.func32, Try.ntmps32
    go_wp2_with (go_at_call 13; refine HS.out.mono ?_; rintro e w' ⟨rfl, rfl⟩)
    go_ret2
    exact ⟨rfl, rfl⟩
  · have h1' : 2 ≤ sec_ := by omega
    by_cases h2 : 31 < sec_
    · clear hb
      go_enter Try.func32, Try.ntmps32
      go_wp2_with (go_at_call 13; refine HS.out.mono ?_; rintro e w' ⟨rfl, rfl⟩)
      go_ret2
      exact ⟨rfl, rfl⟩
    · have h2' : sec_ ≤ 31 := by omega
      by_cases h3 : at_ < 0
      · clear hb
        go_enter Try.func32, Try.ntmps32
        go_wp2_with (go_at_call 13; refine HS.out.mono ?_; rintro e w' ⟨rfl, rfl⟩)
        go_ret2
        exact ⟨rfl, rfl⟩
      · have h3' : 0 ≤ at_ := by omega
        obtain ⟨t, ht⟩ : ∃ t : Int, t = (k : Int) - sec_ := ⟨_, rfl⟩
        have ew : IntKind.i64.wrap ((k : Int) - sec_) = t := by rw [IntKind.wrap_i64]; omega
        have hlt : t < at_ := by omega
        clear hb ht
        go_enter Try.func32, Try.ntmps32
        go_wp2_with (go_at_call 13; refine HS.out.mono ?_; rintro e w' ⟨rfl, rfl⟩)
        go_ret2
        exact ⟨rfl, rfl⟩
end Go.Proofs.Ytjdobjcbmmdjeaa
