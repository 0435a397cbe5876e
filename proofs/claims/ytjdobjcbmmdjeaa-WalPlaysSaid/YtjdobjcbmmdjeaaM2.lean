/- WalPlays: the memory of the law's loop, and what each act does to it. -/
import Derived.Test.YtjdobjcbmmdjeaaQ8
namespace Go.Proofs.Ytjdobjcbmmdjeaa
open Go.RowKit

structure WPS (w0 wr : World) (p d r j q at_ s : Nat) (F G FJ GQ : Nat → Prop) (S : Dsk) (R : RDsk) (J : Jr) (Q : QJr) : Prop where
  below : Below w0.heap.size w0 wr
  pair : PairAt wr p d r j q
  both : Both wr d r j q 12 F G FJ GQ S R J Q
  ja : J.at_ = at_
  js : J.sec = s
  qa : Q.at_ = at_
  qs : Q.sec = s
  keys : ∀ n ∈ J.put.map (·.1), 0 ≤ n ∧ n < (12 : Int)
  len : J.put.length ≤ s - 1
  bytes : ∀ n b, mget J.put n = some b → b.length = 256
  lowp : w0.heap.size ≤ p
  low : ∀ b, F b ∨ G b ∨ FJ b ∨ GQ b → w0.heap.size ≤ b ∧ b ≠ p
  fg : ∀ b, F b → ¬ G b ∧ ¬ FJ b ∧ ¬ GQ b
  gj : ∀ b, G b → ¬ FJ b ∧ ¬ GQ b
  jq : ∀ b, FJ b → ¬ GQ b
section
variable {w0 wr w' w1 w2 : World} {p d r j q at_ s : Nat} {F G FJ GQ F1 G1 FJ1 GQ1 : Nat → Prop} {S S' : Dsk} {R R' : RDsk} {J J' : Jr} {Q Q' : QJr}
theorem WPS.later (h : WPS w0 wr p d r j q at_ s F G FJ GQ S R J Q) (hb : Below wr.heap.size wr w') : WPS w0 w' p d r j q at_ s F G FJ GQ S R J Q :=
  ⟨below_step' h.below hb, Blk.below' h.pair hb, h.both.below hb, h.ja, h.js, h.qa, h.qs, h.keys, h.len, h.bytes, h.lowp, h.low, h.fg, h.gj, h.jq⟩
theorem JrAt.lt' {w : World} {F : Nat → Prop} {j d : Nat} {J : Jr} (h : JrAt w F j d J) {b : Nat} (hb : F b) : b < w.heap.size := by
  obtain ⟨_, _, _, _, _, _, _, h6⟩ := h
  exact h6 b hb
theorem WPS.step (h : WPS w0 wr p d r j q at_ s F G FJ GQ S R J Q) (hm1 : Mod (fun b => F b ∨ FJ b) wr w1) (hd : DiskAt w1 F1 d S') (hj : JrAt w1 FJ1 j d J') (hF1 : ∀ b, F1 b → F b ∨ wr.heap.size ≤ b) (hFJ1 : ∀ b, FJ1 b → FJ b ∨ wr.heap.size ≤ b) (hdis1 : ∀ b, F1 b → ¬ FJ1 b)
    (hm2 : Mod (fun b => G b ∨ GQ b) w1 w2) (hr : RefAt w2 G1 r R') (hq : QAt w2 GQ1 q r Q') (hG1 : ∀ b, G1 b → G b ∨ w1.heap.size ≤ b) (hGQ1 : ∀ b, GQ1 b → GQ b ∨ w1.heap.size ≤ b) (hdis2 : ∀ b, G1 b → ¬ GQ1 b)
    (hrg : RG S' R' 12) (hjq : JQ J'.put Q'.l) (ja : J'.at_ = at_) (js : J'.sec = s) (qa : Q'.at_ = at_) (qs : Q'.sec = s) (hk : ∀ n ∈ J'.put.map (·.1), 0 ≤ n ∧ n < (12 : Int)) (hl : J'.put.length ≤ s - 1) (hb : ∀ n b, mget J'.put n = some b → b.length = 256) :
    WPS w0 w2 p d r j q at_ s F1 G1 FJ1 GQ1 S' R' J' Q' := by
  have hs0 := h.below.size
  have hs1 := hm1.size
  have hs2 := hm2.size
  have hp1 : p < wr.heap.size := (PairAt.cells h.pair).2.2.2.2
  have old : ∀ b, F b ∨ G b ∨ FJ b ∨ GQ b → b < wr.heap.size := fun b hb => by
    rcases hb with hb | hb | hb | hb
    · exact h.both.disk.lt hb
    · exact h.both.ref.lt hb
    · exact h.both.jr.lt' hb
    · exact h.both.qr.lt hb
  -- the program's side hangs on nothing of the reference's
  have n1 : ∀ b, F1 b ∨ FJ1 b → ¬ (G b ∨ GQ b) := fun b hb hg => by
    have hlt : b < wr.heap.size := old b (hg.elim (fun h => .inr (.inl h)) (fun h => .inr (.inr (.inr h))))
    rcases hb with hb | hb
    · rcases hF1 b hb with h1 | h1
      · exact hg.elim (fun hg => (h.fg b h1).1 hg) (fun hg => (h.fg b h1).2.2 hg)
      · omega
    · rcases hFJ1 b hb with h1 | h1
      · exact hg.elim (fun hg => (h.gj b hg).1 h1) (fun hg => h.jq b h1 hg)
      · omega
  have lt1 : ∀ b, F1 b ∨ FJ1 b → b < w1.heap.size := fun b hb => hb.elim (fun hb => hd.lt hb) (fun hb => hj.lt' hb)
  refine ⟨?_, ?_, ⟨hd.mod hm2 (fun b hb => n1 b (.inl hb)), hr, hj.mod hm2 (fun b hb => n1 b (.inr hb)), hq, hrg, hjq⟩, ja, js, qa, qs, hk, hl, hb, h.lowp, ?_, ?_, ?_, ?_⟩
  · refine (h.below.trans (hm1.below hs0 (fun b hb => ?_))).trans (hm2.below (by omega) (fun b hb => ?_))
    · exact (h.low b (hb.elim .inl (fun h => .inr (.inr (.inl h))))).1
    · exact (h.low b (hb.elim (fun h => .inr (.inl h)) (fun h => .inr (.inr (.inr h))))).1
  · refine Blk.mod (Blk.mod h.pair hm1 (fun hb => ?_)) hm2 (fun hb => ?_)
    · exact (h.low p (hb.elim .inl (fun h => .inr (.inr (.inl h))))).2 rfl
    · exact (h.low p (hb.elim (fun h => .inr (.inl h)) (fun h => .inr (.inr (.inr h))))).2 rfl
  · intro b hb
    rcases hb with hb | hb | hb | hb
    · rcases hF1 b hb with h1 | h1
      · exact h.low b (.inl h1)
      · exact ⟨by omega, by omega⟩
    · rcases hG1 b hb with h1 | h1
      · exact h.low b (.inr (.inl h1))
      · exact ⟨by omega, by omega⟩
    · rcases hFJ1 b hb with h1 | h1
      · exact h.low b (.inr (.inr (.inl h1)))
      · exact ⟨by omega, by omega⟩
    · rcases hGQ1 b hb with h1 | h1
      · exact h.low b (.inr (.inr (.inr h1)))
      · exact ⟨by omega, by omega⟩
  · intro b hb
    have hlt := lt1 b (.inl hb)
    refine ⟨fun hg => ?_, hdis1 b hb, fun hg => ?_⟩
    · rcases hG1 b hg with h1 | h1
      · exact n1 b (.inl hb) (.inl h1)
      · omega
    · rcases hGQ1 b hg with h1 | h1
      · exact n1 b (.inl hb) (.inr h1)
      · omega
  · intro b hb
    refine ⟨fun hg => ?_, hdis2 b hb⟩
    have hlt := lt1 b (.inr hg)
    rcases hG1 b hb with h1 | h1
    · exact n1 b (.inr hg) (.inl h1)
    · omega
  · intro b hb hg
    have hlt := lt1 b (.inr hb)
    rcases hGQ1 b hg with h1 | h1
    · exact n1 b (.inr hb) (.inr h1)
    · omega
end
/-! ### What is put, on both sides -/
section
variable {J : Jr} {Q : QJr} {at_ s : Nat} {z : Int}
theorem pOk_iff (k : Nat) (ja : J.at_ = at_) (js : J.sec = s) : pOk J k 256 z = true ↔ (0 ≤ z ∧ z < (k : Int) ∧ ¬ ((at_ : Int) ≤ z ∧ z < (at_ : Int) + s)) := by
  unfold pOk outK
  rw [ja, js]
  simp only [Bool.and_eq_true, decide_eq_true_eq, and_true]
  constructor
  · rintro ⟨h1, h2, h3⟩
    refine ⟨h1, by omega, fun h => ?_⟩
    omega
  · rintro ⟨h1, h2, h3⟩
    refine ⟨h1, by omega, ?_⟩
    omega
theorem mput_mem' {V : Type} {D : List (Int × V)} {a m : Int} {v : V} (h : m ∈ (mput D a v).map (·.1)) : m = a ∨ m ∈ D.map (·.1) := by
  cases hg : mget D a with
  | none =>
    rw [mput_new hg, List.map_append, List.mem_append] at h
    exact h.elim .inr (fun h => .inl (by simpa using h))
  | some v0 => rw [mput_keys hg] at h; exact .inr h
theorem errs_alike (hj : JQ J.put Q.l) (k : Nat) (ja : J.at_ = at_) (js : J.sec = s) (qa : Q.at_ = at_) (qs : Q.sec = s) : pErr J k 256 z = qErr Q k z := by
  unfold pErr qErr
  rw [qa, qs, js, hj.length, hj.get]
  by_cases h : (0 ≤ z ∧ z < (k : Int) ∧ ¬ ((at_ : Int) ≤ z ∧ z < (at_ : Int) + s))
  · rw [if_neg (show ¬ (pOk J k 256 z = false) from by rw [(pOk_iff k ja js).2 h]; decide), if_neg (show ¬ ¬ (0 ≤ z ∧ z < (k : Int) ∧ ¬ ((at_ : Int) ≤ z ∧ z < (at_ : Int) + s)) from fun h2 => h2 h)]
  · rw [if_pos (by cases e : pOk J k 256 z with
      | false => rfl
      | true => exact absurd ((pOk_iff k ja js).1 e) h), if_pos h]
theorem put_alike (hj : JQ J.put Q.l) (k : Nat) (ja : J.at_ = at_) (js : J.sec = s) (qa : Q.at_ = at_) (qs : Q.sec = s) (bs : List UInt8) : JQ (pJr J k 256 z bs).put (qPut Q k z bs).l := by
  unfold pJr qPut
  rw [errs_alike hj k ja js qa qs]
  split
  · exact hj.put z bs
  · exact hj
theorem pJr_at (k : Nat) (bs : List UInt8) : (pJr J k 256 z bs).at_ = J.at_ ∧ (pJr J k 256 z bs).sec = J.sec := by unfold pJr; split <;> exact ⟨rfl, rfl⟩
theorem qPut_at (k : Nat) (bs : List UInt8) : (qPut Q k z bs).at_ = Q.at_ ∧ (qPut Q k z bs).sec = Q.sec := by unfold qPut; split <;> exact ⟨rfl, rfl⟩
theorem pJr_facts (k : Nat) (bs : List UInt8) (hbs : bs.length = 256) (ja : J.at_ = at_) (js : J.sec = s) (hs : 2 ≤ s) (hk : ∀ n ∈ J.put.map (·.1), 0 ≤ n ∧ n < (k : Int)) (hl : J.put.length ≤ s - 1) (hb : ∀ n b, mget J.put n = some b → b.length = 256) :
    (∀ n ∈ (pJr J k 256 z bs).put.map (·.1), 0 ≤ n ∧ n < (k : Int)) ∧ (pJr J k 256 z bs).put.length ≤ s - 1 ∧ ∀ n b, mget (pJr J k 256 z bs).put n = some b → b.length = 256 := by
  unfold pJr
  split
  · rename_i he
    have hok : pOk J k 256 z = true := by
      unfold pErr at he
      cases e : pOk J k 256 z with
      | true => rfl
      | false => rw [e, if_pos rfl] at he; cases he
    obtain ⟨h0, h1, _⟩ := (pOk_iff (s := s) k ja js).1 hok
    refine ⟨fun n hn => ?_, ?_, fun n b hn => ?_⟩
    · rcases mput_mem' hn with h | h
      · rw [h]; exact ⟨h0, h1⟩
      · exact hk n h
    · unfold pErr at he
      rw [hok, if_neg (by decide)] at he
      show (mput J.put z bs).length ≤ s - 1
      by_cases hm : (mget J.put z).isNone
      · rw [hm] at he
        by_cases hle : J.sec - 1 ≤ J.put.length
        · rw [decide_eq_true hle] at he; cases he
        · rw [mput_new (Option.isNone_iff_eq_none.1 hm), List.length_append, List.length_singleton]; omega
      · cases hg : mget J.put z with
        | none => exact absurd (by rw [hg]; rfl) hm
        | some v0 =>
          have := congrArg List.length (mput_keys (v := bs) hg)
          rw [List.length_map, List.length_map] at this
          omega
    · rw [mget_mput] at hn
      split at hn
      · injection hn with hn; rw [← hn]; exact hbs
      · exact hb n b hn
  · exact ⟨hk, hl, hb⟩
end
end Go.Proofs.Ytjdobjcbmmdjeaa
