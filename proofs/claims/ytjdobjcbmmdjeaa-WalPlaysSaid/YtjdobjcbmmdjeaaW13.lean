/- The memory of WalShows' loop; what a commit adds. -/
import Derived.Test.YtjdobjcbmmdjeaaW12
import Derived.Test.YtjdobjcbmmdjeaaW1
namespace Go.Proofs.Ytjdobjcbmmdjeaa
open Go.RowKit

theorem doS_facts {S : Dsk} {k : Nat} (at_ : Nat) {l : List Int} (hg : S.Good k) (hl : ∀ n ∈ l, 0 ≤ n ∧ n < (k : Int)) (ha : at_ + l.length < k) :
    (doS S at_ l).Good k ∧ (doS S at_ l).ev.length = S.ev.length + l.length + 3 ∧ (doS S at_ l).wrote.length = S.wrote.length + 256 * l.length + 256 := by
  have h1 := doI_good at_ hg hl ha l.length (Nat.le_refl _)
  have h2 := doI_ev S at_ l l.length (Nat.le_refl _)
  have h3 := doI_wrote at_ hg hl ha l.length (Nat.le_refl _)
  refine ⟨((h1.flush).write at_ (by omega) (zeros 256) zeros256).flush, ?_, ?_⟩
  · simp only [doS, flushD, writeD, List.length_append, List.length_cons, List.length_nil]; omega
  · simp only [doS, flushD, writeD, List.length_append, zeros256]; omega
theorem keys_get {J : Jr} {n : Int} (h : n ∈ J.keys) : n ∈ J.put.map (·.1) := (List.mergeSort_perm _ _).mem_iff.1 h
theorem commitS_facts {S : Dsk} {k : Nat} {J : Jr} (hg : S.Good k) (hk : ∀ n ∈ J.put.map (·.1), 0 ≤ n ∧ n < (k : Int)) (hb : ∀ n b, mget J.put n = some b → b.length = 256) (ha : J.at_ + J.put.length < k) (h30 : J.put.length ≤ 30) :
    (commitS S J).Good k ∧ (commitS S J).ev.length = S.ev.length + 2 * J.put.length + 6 ∧ (commitS S J).wrote.length = S.wrote.length + 512 * J.put.length + 512 := by
  have hlen := J.keys_length
  have h1 := cmI_facts (S := S) (k := k) J.at_ (P := J.put) (l := J.keys) hg (fun n hn => by
    cases hgt : mget J.put n with
    | none => exact absurd (keys_get hn) (mget_none.1 hgt)
    | some b => exact ⟨b, rfl, hb n b hgt⟩) (by omega) J.keys.length (Nat.le_refl _)
  obtain ⟨g1, g2, g3⟩ := h1
  have hh := header_length (l := J.keys) (by omega)
  have hg2 := ((g1.flush).write J.at_ (by omega) (header J.keys) hh).flush
  obtain ⟨d1, d2, d3⟩ := doS_facts (S := flushD (writeD (flushD (cmI S J.at_ J.put J.keys J.keys.length)) J.at_ (header J.keys))) (k := k) J.at_ (l := J.keys) hg2 (fun n hn => hk n (keys_get hn)) (by omega)
  refine ⟨d1, ?_, ?_⟩
  · unfold commitS; rw [d2]; simp only [flushD, writeD, List.length_append, List.length_cons, List.length_nil]; omega
  · unfold commitS; rw [d3]; simp only [flushD, writeD, List.length_append, hh]; omega

structure ShSt (w0 wr : World) (d j : Nat) (F FJ : Nat → Prop) (S : Dsk) (J : Jr) : Prop where
  below : Below w0.heap.size w0 wr
  disk : DiskAt wr F d S
  jr : JrAt wr FJ j d J
  good : S.Good 12
  wrote : S.wrote.length ≤ 256 * S.ev.length
  at0 : J.at_ = 0
  sec4 : J.sec = 4
  len : J.put.length ≤ 3
  keys : ∀ n ∈ J.put.map (·.1), 4 ≤ n ∧ n < (12 : Int)
  byt : ∀ n b, mget J.put n = some b → b.length = 256
  fF : ∀ b, F b → w0.heap.size ≤ b
  fJ : ∀ b, FJ b → w0.heap.size ≤ b
  dis : ∀ b, F b → ¬ FJ b
section
variable {w0 wr w' : World} {d j : Nat} {F FJ : Nat → Prop} {S : Dsk} {J : Jr}
theorem ShSt.later (h : ShSt w0 wr d j F FJ S J) (hb : Below wr.heap.size wr w') : ShSt w0 w' d j F FJ S J :=
  ⟨h.below.trans (hb.mono h.below.size), h.disk.below hb, h.jr.below hb, h.good, h.wrote, h.at0, h.sec4, h.len, h.keys, h.byt, h.fF, h.fJ, h.dis⟩
/-- Put -/
theorem ShSt.put (h : ShSt w0 wr d j F FJ S J) (n : Int) (hn : 4 ≤ n ∧ n < 12) (bs : List UInt8) (hb : bs.length = 256) (hj : JrAt w' (fun b => FJ b ∨ (wr.heap.size ≤ b ∧ b < w'.heap.size)) j d (pJr J 12 256 n bs)) (hm : Mod FJ wr w') :
    ShSt w0 w' d j F (fun b => FJ b ∨ (wr.heap.size ≤ b ∧ b < w'.heap.size)) S (pJr J 12 256 n bs) := by
  have hsz := h.below.size
  have hd : DiskAt w' F d S := h.disk.mod hm (fun b hb e => h.dis b hb e)
  have hFJ : ∀ b, (FJ b ∨ (wr.heap.size ≤ b ∧ b < w'.heap.size)) → w0.heap.size ≤ b := fun b hb => hb.elim (fun hb => h.fJ b hb) (fun hb => by omega)
  have hdis : ∀ b, F b → ¬ (FJ b ∨ (wr.heap.size ≤ b ∧ b < w'.heap.size)) := fun b hb e => e.elim (fun e => h.dis b hb e) (fun e => by have := h.disk.lt hb; omega)
  have hbel : Below w0.heap.size w0 w' := h.below.trans (hm.below hsz h.fJ)
  by_cases hp : pErr J 12 256 n = 0
  · have e : pJr J 12 256 n bs = ⟨J.at_, J.sec, mput J.put n bs⟩ := by simp [pJr, hp]
    rw [e] at hj ⊢
    refine ⟨hbel, hd, hj, h.good, h.wrote, h.at0, h.sec4, ?_, fun m hm => ?_, fun m b hg => ?_, h.fF, hFJ, hdis⟩
    · show (mput J.put n bs).length ≤ 3
      cases hg : mget J.put n with
      | none =>
        rw [mput_new hg, List.length_append]
        have : ¬ (J.sec - 1 ≤ J.put.length) := by
          intro hle
          unfold pErr at hp
          split at hp
          · omega
          · rw [hg] at hp; simp [hle] at hp
        have := h.sec4
        simp only [List.length_cons, List.length_nil]
        omega
      | some v =>
        have := congrArg List.length (mput_keys (v := bs) hg)
        simp only [List.length_map] at this
        have := h.len
        omega
    · have hm : m ∈ (mput J.put n bs).map (·.1) := hm
      cases hg : mget J.put n with
      | none =>
        rw [mput_new hg, List.map_append, List.mem_append] at hm
        rcases hm with hm | hm
        · exact h.keys m hm
        · simp at hm; subst hm; exact hn
      | some v => rw [mput_keys hg] at hm; exact h.keys m hm
    · have hg : mget (mput J.put n bs) m = some b := hg
      rw [mget_mput] at hg
      split at hg
      · injection hg with hg; rw [← hg]; exact hb
      · exact h.byt m b hg
  · have e : pJr J 12 256 n bs = J := by simp [pJr, hp]
    rw [e] at hj ⊢
    exact ⟨hbel, hd, hj, h.good, h.wrote, h.at0, h.sec4, h.len, h.keys, h.byt, h.fF, hFJ, hdis⟩
/-- Abort -/
theorem ShSt.abort (h : ShSt w0 wr d j F FJ S J) (hj : JrAt w' FJ j d ⟨J.at_, J.sec, []⟩) (hm : Mod FJ wr w') : ShSt w0 w' d j F FJ S ⟨J.at_, J.sec, []⟩ :=
  ⟨h.below.trans (hm.below h.below.size h.fJ), h.disk.mod hm (fun b hb e => h.dis b hb e), hj, h.good, h.wrote, h.at0, h.sec4, Nat.zero_le _, by simp, fun n b h => by simp [mget] at h, h.fF, h.fJ, h.dis⟩
/-- Commit -/
theorem ShSt.commit (h : ShSt w0 wr d j F FJ S J) (hj : JrAt w' FJ j d ⟨J.at_, J.sec, []⟩) (hd : DiskAt w' (fun b => F b ∨ (wr.heap.size ≤ b ∧ b < w'.heap.size)) d (cmDsk S J)) (hm : Mod (fun b => F b ∨ FJ b) wr w') :
    ShSt w0 w' d j (fun b => F b ∨ (wr.heap.size ≤ b ∧ b < w'.heap.size)) FJ (cmDsk S J) ⟨J.at_, J.sec, []⟩ ∧ (cmDsk S J).ev.length = S.ev.length + (if J.put.length = 0 then 0 else 2 * J.put.length + 6) := by
  have hsz := h.below.size
  have hf : (cmDsk S J).Good 12 ∧ (cmDsk S J).wrote.length ≤ 256 * (cmDsk S J).ev.length ∧ (cmDsk S J).ev.length = S.ev.length + (if J.put.length = 0 then 0 else 2 * J.put.length + 6) := by
    have hw := h.wrote
    unfold cmDsk
    by_cases hp : J.put = []
    · rw [if_pos hp, if_pos (by rw [hp]; rfl)]
      exact ⟨h.good, hw, rfl⟩
    · have hl : J.put.length ≠ 0 := fun e => hp (List.eq_nil_of_length_eq_zero e)
      rw [if_neg hp, if_neg hl]
      have h3 := h.len
      have h0 := h.at0
      obtain ⟨g1, g2, g3⟩ := commitS_facts (S := S) (k := 12) (J := J) h.good (fun n hn => by have := h.keys n hn; exact ⟨by omega, this.2⟩) h.byt (by omega) (by omega)
      exact ⟨g1, by omega, by omega⟩
  refine ⟨⟨h.below.trans (hm.below hsz (fun b hb => hb.elim (h.fF b) (h.fJ b))), hd, hj, hf.1, hf.2.1, h.at0, h.sec4, Nat.zero_le _, by simp, fun n b h => by simp [mget] at h, fun b hb => hb.elim (fun hb => h.fF b hb) (fun hb => by omega), h.fJ, fun b hb e => ?_⟩, hf.2.2⟩
  rcases hb with hb | hb
  · exact h.dis b hb e
  · have := h.jr.lt e; omega
end
theorem outK_in {n : Nat} (h : 4 ≤ n) (h2 : n < 12) : outK 12 0 4 n = true := by simp [outK, h2, h]
theorem and7 (n : Int) : bits .and .i64 n 7 = ((n % 8).toNat : Int) := by
  have e : ∀ m : Nat, m &&& 7 = m % 8 := fun m => Nat.and_two_pow_sub_one_eq_mod m 3
  have h : bits .and .i64 n 7 = IntKind.i64.wrap (((n % 18446744073709551616).toNat &&& 7 : Nat) : Int) := by
    unfold bits; rfl
  rw [h, e, IntKind.wrap_i64]
  omega
end Go.Proofs.Ytjdobjcbmmdjeaa
