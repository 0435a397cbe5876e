/- Contracts of package wal: Clone, Get, Abort. -/
import Derived.Test.YtjdobjcbmmdjeaaW5
namespace Go.Proofs.Ytjdobjcbmmdjeaa
open Go.RowKit

theorem zero22 (w : World) : (zeroValue 22).run Try.prog w = .ok (.slice none 0 0) w := by
  have h : (Try.prog.info? 22).map (·.zero) = some (some (.slice none 0 0)) := by kernel_rfl
  obtain ⟨i, hi, hz⟩ := Option.map_eq_some_iff.1 h
  simp [zeroValue, typeInfo, hi, hz]

/-- slices.Clone -/
theorem sclone_any (A : Option Addr) (n c : Nat) (l : List UInt8) (F : Nat → Prop) (w : World) (h : Sl w F 1 (.slice A n c) n (B8 l)) (hn : n ≤ 140737488355328) :
    Calls Try.prog 46 #[.slice A n c] w fun e w' => ∃ A' c', e = .returned (.slice A' n c') ∧ w'.ownsRow 0 5 1 (.slice A' n c') n (B8 l) ∧ Below w.heap.size w w' ∧
      (∀ b, (Value.slice A' n c').ownBlock = some b → w.heap.size ≤ b) := by
  have q := fun (w : World) => Lib.run_eql_slice_nil (P := Try.prog) w 22 5 A n c 0 0 Try.underlying22
  have hA : Hid (A = none → n = 0) := by
    intro hA; subst hA
    obtain ⟨_, A, c, hv, _, hr⟩ := h
    rcases Nat.eq_zero_or_pos n with h0 | h0
    · exact h0
    · obtain ⟨ad, h1, _⟩ := hr h0
      injection hv with hv; rw [h1] at hv; cases hv
  have hl : Hid ((B8 l).length = n * 1) := h.1
  cases A with
  | none =>
    obtain rfl := hA.out rfl
    go_enter Try.func46, Try.ntmps46
    go_wp2
    go_ret
    have hx : l = [] := List.eq_nil_of_length_eq_zero (by have := hl.out; simpa [B8] using this)
    subst hx
    exact ⟨_, _, rfl, own_nil0 _ _ _, Below.refl _ _, by simp [Value.ownBlock]⟩
  | some ad =>
    go_enter Try.func46, Try.ntmps46
    go_wp2_with (at_builtin
                 refine wpList_app _ rfl (.tmp 5) (.tmp 6) 22 rfl 5 (.int .u8 0) 1 1 Try.underlying22 info5 rfl (by omega) (by omega) (.slice (some ⟨w.heap.size, 0, none⟩) 0 0) 0 [] rfl
                   (own_of_blk (Blk.new w 5 #[]) 1 0 rfl (by simp [maxLen])) F (.slice (some ad) n c) n (B8 l) rfl (h.below (by omega) ((Below.refl _ _).alloc (Nat.le_refl _) _)) (B8_one l) (by omega) ?_
                 intro A' c' w' hown hg hat hnil)
    go_ret
    simp only [Nat.zero_add, List.nil_append] at hown hat ⊢
    refine ⟨A', c', rfl, hown, ((Below.refl _ _).alloc (Nat.le_refl _) _).grown hg (by simp) (by simp [Value.ownBlock]), fun b hb => ?_⟩
    rcases hat with e | e <;> rw [e] at hb <;> simp [Value.ownBlock] at hb <;> omega

/-- what Get shows -/
def Jr.shows (J : Jr) (S : Dsk) (k : Nat) (z : Int) : List UInt8 × Int := match mget J.put z with | some b => (b, 0) | none => shown S k z
theorem get_ok (w : World) (F G : Nat → Prop) (j d k : Nat) (z : Int) (J : Jr) (S : Dsk) (h : JrAt w F j d J) (hd : DiskAt w G d S) (hk1 : 1 ≤ k) (hk : k ≤ 2048) (hnow : S.now.length = k * 256) :
    Calls Try.prog 25 #[.pointer (some ⟨j, 0, none⟩), .int .i64 z] w fun e w' => ∃ A m c, e = .returned (.tuple #[.slice A m c, .int .i64 (J.shows S k z).2]) ∧ m ≤ 256 ∧ w'.ownsRow 0 5 1 (.slice A m c) m (B8 (J.shows S k z).1) ∧
      (∀ b, (Value.slice A m c).ownBlock = some b → w.heap.size ≤ b) ∧ Below w.heap.size w w' := by
  have HN := Lib.hid h.isnt
  obtain ⟨g, D, hFj, hFg, hb, hm, hp, _⟩ := (id h : ∃ _, _)
  have c0 : w.cell? ⟨j, 0, none⟩ = some (.pointer (some ⟨d, 0, none⟩)) := by rw [hb.cell]; rfl
  have c3 : w.cell? ⟨j, 3, none⟩ = some (.map (some g)) := by rw [hb.cell]; rfl
  have hl := hb.lt
  rcases hp.get z with ⟨h1, h2⟩ | ⟨v, b, h1, h2, hv⟩
  · have hlk : (Instr.lookup 60 (.map (some g)) (.int .i64 z) true).run Try.prog w = .ok (.tuple #[.slice none 0 0, .bool false]) w := hm.lookup_none Try.underlying60 h1 (zero22 w) true
    have e : J.shows S k z = shown S k z := by simp [Jr.shows, h2]
    rw [e]
    have HR := Lib.hid (read_all w G d k z S hd hk1 hk hnow)
    clear h hb hm hp h1 h2 e hd hnow
    go_enter Try.func25, Try.ntmps25
    go_wp2_with fail
    refine HN.out.mono ?_
    rintro e w' ⟨rfl, rfl⟩
    go_wp2_with fail
    refine HR.out.mono ?_
    rintro e w' ⟨A, m, c, rfl, k1, k2, k3, k4⟩
    have HK := Lib.hid (And.intro k1 (And.intro k2 (And.intro k3 k4)))
    clear k1 k2 k3 k4
    go_wp2_with fail
    go_ret2
    exact ⟨A, m, c, rfl, HK.out⟩
  · have hlk : (Instr.lookup 60 (.map (some g)) (.int .i64 z) true).run Try.prog w = .ok (.tuple #[v, .bool true]) w := hm.lookup_some Try.underlying60 h1 true
    have e : J.shows S k z = (b, 0) := by simp [Jr.shows, h2]
    rw [e]
    obtain ⟨hbl, A, c, rfl, ho, _⟩ := hv
    have HC := Lib.hid (sclone_any A 256 c b _ w (Sl.of_own ho) (by omega))
    clear h hb hm hp h1 h2 e hd hnow ho
    go_enter Try.func25, Try.ntmps25
    go_wp2_with fail
    refine HN.out.mono ?_
    rintro e w' ⟨rfl, rfl⟩
    go_wp2_with fail
    refine HC.out.mono ?_
    rintro e w' ⟨A', c', rfl, k1, k2, k3⟩
    have HK := Lib.hid (And.intro k1 (And.intro k3 k2))
    clear k1 k2 k3
    go_wp2_with fail
    go_ret2
    exact ⟨A', 256, c', rfl, Nat.le_refl _, HK.out⟩
/-- Abort -/
theorem abort_ok (w : World) (F : Nat → Prop) (j d : Nat) (J : Jr) (h : JrAt w F j d J) :
    Calls Try.prog 29 #[.pointer (some ⟨j, 0, none⟩)] w fun e w' => e = .returned (.int .i64 0) ∧ JrAt w' F j d ⟨J.at_, J.sec, []⟩ ∧ Mod F w w' := by
  have HN := Lib.hid h.isnt
  obtain ⟨g, D, hFj, hFg, hb, hm, hp, hlt⟩ := (id h : ∃ _, _)
  have c3 : w.cell? ⟨j, 3, none⟩ = some (.map (some g)) := by rw [hb.cell]; rfl
  have hl := hb.lt
  obtain ⟨w2, hrun, hm2, hmod⟩ := hm.clear Try.underlying60 0
  have HK : Hid (JrAt w2 F j d ⟨J.at_, J.sec, []⟩ ∧ Mod F w w2) :=
    ⟨⟨g, [], hFj, hFg, hb.mod hmod (fun e => hm.ne_blk hb e.symm), hm2, trivial, fun b hb => Nat.lt_of_lt_of_le (hlt b hb) hmod.size⟩, hmod.mono (fun b _ e => by rw [e]; exact hFg)⟩
  clear h hb hm hp hlt hm2 hmod
  go_enter Try.func29, Try.ntmps29
  go_wp2_with fail
  refine HN.out.mono ?_
  rintro e w' ⟨rfl, rfl⟩
  go_wp2_with fail
  go_ret
  exact ⟨rfl, HK.out⟩
end Go.Proofs.Ytjdobjcbmmdjeaa
