/- Contracts of package wal: Pending. -/
import Derived.Test.YtjdobjcbmmdjeaaW4
import Derived.Test.YtjdobjcbmmdjeaaSh
import Derived.Lib.SlKeysI
namespace Go.Proofs.Ytjdobjcbmmdjeaa
open Go.RowKit

def Ints (l : List Int) : List Value := l.map fun (n : Int) => Value.int .i64 n
theorem Ints_length (l : List Int) : (Ints l).length = l.length := by simp [Ints]
theorem Ints_one (l : List Int) : ∀ u ∈ Ints l, u.oneCell' = true := by intro u hu; obtain ⟨b, _, rfl⟩ := List.mem_map.1 hu; rfl
abbrev srt (l : List Int) : List Int := l.mergeSort fun x y => decide (x ≤ y)
theorem srt_length (l : List Int) : (srt l).length = l.length := List.length_mergeSort ..

/-- slices.Sort of a row of its own -/
theorem sort_ints (w : World) (A : Option Addr) (n c : Nat) (l : List Int) (h : w.ownsRow 0 3 1 (.slice A n c) n (Ints l)) (hn : n ≤ 1000000000000) :
    Calls Try.prog 50 #[.slice A n c] w fun e w' => e = .returned (.tuple #[]) ∧ w'.ownsRow 0 3 1 (.slice A n c) n (Ints (srt l)) ∧ Mod (fun b => (Value.slice A n c).ownBlock = some b) w w' := by
  have hl : l.length = n := by have := h.1; rw [Ints_length, Nat.mul_one] at this; exact this
  rcases h.2 with ⟨hv, h0⟩ | ⟨g, cap, cur, hv, hb0, hg, hc, hm, hcs, ht⟩
  · simp only [Value.slice.injEq] at hv
    obtain ⟨rfl, _, rfl⟩ := hv
    subst h0
    obtain rfl : l = [] := List.eq_nil_of_length_eq_zero hl
    refine (Try.slices_Sort_int_none none 0 w).mono ?_
    rintro e w' ⟨rfl, rfl⟩
    exact ⟨rfl, by simpa [srt, Ints] using h, Mod.refl _ _⟩
  · simp only [Value.slice.injEq] at hv
    obtain ⟨rfl, _, rfl⟩ := hv
    subst hl
    refine (Try.slices_Sort_int g 0 c l w (fun j hj => ⟨?_, h.frozenAt _⟩) (Array.getElem?_eq_some_iff.1 hg).1 (by omega)).mono ?_
    · simp only [List.size_toArray] at hj
      rw [h.cellAt _ (by omega)]
      simp [Ints, hj]
    · rintro e w' ⟨rfl, m, os, rfl⟩
      refine ⟨rfl, ?_, ⟨rfl, rfl, rfl, by simp [Go.Sort.grow, Go.Sort.putRow, Go.Sort.mapBlock, Go.Sort.ahead], fun b hb hf => ?_⟩⟩
      · have := ownsRow_sorted_i (n := m) (os := os) (w := w) (ts := srt l) (base := 0) (e := 3) (srt_length l) (Nat.zero_le _) hg hc hm hcs
        exact this
      · have hne : g ≠ b := fun e => hf (by rw [e]; rfl)
        simp only [Go.Sort.grow, Go.Sort.putRow, Go.Sort.mapBlock, Go.Sort.ahead]
        rw [Array.getElem?_append_left (by simpa using hb)]
        simp [Array.getElem?_modify, hne]

def Jr.keys (J : Jr) : List Int := srt (J.put.map (·.1))
theorem Jr.keys_length (J : Jr) : J.keys.length = J.put.length := by unfold Jr.keys; rw [srt_length, List.length_map]
theorem srt_perm {l m : List Int} (h : l.Perm m) : srt l = srt m := by
  have tr : ∀ a b c : Int, decide (a ≤ b) = true → decide (b ≤ c) = true → decide (a ≤ c) = true := by
    intro a b c; simp only [decide_eq_true_eq]; omega
  have tot : ∀ a b : Int, (decide (a ≤ b) || decide (b ≤ a)) = true := by
    intro a b; simp only [Bool.or_eq_true, decide_eq_true_eq]; omega
  refine List.Perm.eq_of_pairwise (le := fun x y => decide (x ≤ y) = true) ?_ (List.pairwise_mergeSort tr tot l) (List.pairwise_mergeSort tr tot m) ((List.mergeSort_perm l _).trans (h.trans (List.mergeSort_perm m _).symm))
  intro a b _ _ h1 h2
  simp only [decide_eq_true_eq] at h1 h2
  omega

set_option maxRecDepth 100000 in
set_option maxHeartbeats 1000000 in
theorem pending_ok (w : World) (F : Nat → Prop) (j d : Nat) (J : Jr) (h : JrAt w F j d J) (hpl : J.put.length ≤ 1000000) :
    Calls Try.prog 30 #[.pointer (some ⟨j, 0, none⟩)] w fun e w' => ∃ A c, e = .returned (.slice A J.put.length c) ∧ w'.ownsRow 0 3 1 (.slice A J.put.length c) J.put.length (Ints J.keys) ∧ (∀ b, (Value.slice A J.put.length c).ownBlock = some b → w.heap.size ≤ b) ∧ Below w.heap.size w w' := by
  have HN := Lib.hid h.isnt
  obtain ⟨g, D, hFj, hFg, hb, hm, hp, hlt⟩ := (id h : ∃ _, _)
  have c3 : w.cell? ⟨j, 3, none⟩ = some (.map (some g)) := by rw [hb.cell]; rfl
  have hl := hb.lt
  have hDl : D.length = J.put.length := by have := congrArg List.length hp.keys; simpa using this
  have HK : Hid (D.map (·.1) = J.put.map (·.1)) := Lib.hid hp.keys
  obtain ⟨w1, hrun, hit, hb1⟩ := hm.range Try.underlying60
  have HI := Lib.hid (And.intro hit hb1)
  have HM := Lib.hid hm
  clear h hb hm hp hlt hit hb1
  go_enter Try.func30, Try.ntmps30
  go_wp2_with fail
  refine HN.out.mono ?_
  rintro e w' ⟨rfl, rfl⟩
  go_wp2_with fail
  go_loopg [3] (D.length + 1) (fun kq lv wr => ∃ (done : List (Int × Value)) (A : Option Addr) (c : Nat), lv = .slice A done.length c ∧ done.length ≤ D.length ∧ kq = D.length + 1 - done.length ∧ Hid (Iter KI wr w.heap.size g D done) ∧ Hid (wr.ownsRow 0 3 1 (.slice A done.length c) done.length (Ints (done.map (·.1)))) ∧
    Hid (∀ b, (Value.slice A done.length c).ownBlock = some b → w.heap.size ≤ b) ∧ Hid (Below w.heap.size w wr))
  case atStart => exact ⟨[], none, 0, rfl, Nat.zero_le _, rfl, HI.out.1, own_nil0 _ _ _, Lib.hid (fun b hb => by simp [Value.ownBlock] at hb), HI.out.2⟩
  case round =>
    obtain ⟨done, A, c, rfl, hdl, rfl, hi, ho, hf, hb⟩ := hrel
    rcases hi.out.next 0 with ⟨hall, hnx⟩ | ⟨x, w2, hnx, hen, hi2, hxD, hmod⟩
    · have hpm := hi.out.perm hall
      have hlen : done.length = D.length := hpm.length_eq
      have hsrt := Lib.hid (show srt (done.map (·.1)) = J.keys from by unfold Jr.keys; rw [← HK.out]; exact srt_perm (hpm.map _))
      obtain ⟨n, hn⟩ : ∃ n, n = done.length := ⟨_, rfl⟩
      rw [← hn] at ho hf hlen ⊢
      have hnJ : n = J.put.length := hlen.trans hDl
      have HO := Lib.hid (sort_ints wr A n c _ ho.out (by omega))
      have HNJ := Lib.hid hnJ
      clear hall hpm hlen hn hnJ ho hDl hpl
      go_wp2_with fail
      refine HO.out.mono ?_
      rintro e w' ⟨rfl, k1, k2⟩
      have HE := Lib.hid (And.intro k1 k2)
      clear k1 k2
      go_wp2_with fail
      go_ret
      rw [hsrt.out] at HE
      rw [HNJ.out] at HE hf
      refine ⟨A, c, by rw [HNJ.out]; rfl, HE.out.1, hf.out, hb.out.trans (HE.out.2.below hb.out.size (fun i hi => hf.out i hi))⟩
    · have hb2 := Lib.hid (hb.out.trans (hmod.below (by have := hb.out.size; omega) (fun i hi => by rw [hi]; exact Nat.le_refl _)))
      have hne := hi.out.ne_own ho.out
      have ho2 := Lib.hid (own_mod ho.out hmod (fun b hb e => hne (by rw [hb, e])))
      have hg2 := Lib.hid hi2
      have hlt3 : done.length < D.length := by
        obtain ⟨_, _, _, _, _, _, _, _, _, _, _, _, _, _, ds, _, _, _, hdn, hdD⟩ := hi2
        have := (nodup_of_map _ hdn).length_le_of_subset hdD
        simp at this; omega
      obtain ⟨n, hn⟩ : ∃ n, n = done.length := ⟨_, rfl⟩
      rw [← hn] at ho ho2 hf hlt3 hdl hne ⊢
      have hsz2 : w.heap.size < w2.heap.size := hg2.out.lt
      replace hnx : (Instr.next (.pointer (some ⟨w.heap.size, 0, none⟩)) false 0).run Try.prog wr = .ok (.tuple #[.bool true, .int .i64 x.1, x.2]) w2 := hnx
      replace hen : (Instr.entry (.pointer (some ⟨w.heap.size, 0, none⟩))).run Try.prog w2 = .ok (.tuple #[.int .i64 x.1, x.2]) w2 := hen
      have HX := Lib.hid hn
      clear hi2 hi hn hmod hxD
      go_wp2_with (at_builtin
                   refine wpList_app _ rfl (.tmp 16) (.tmp 18) 53 rfl 3 (.int .i64 0) 1 8 Try.underlying53 info3 rfl (by omega) (by omega) (.slice A n c) n (Ints (done.map (·.1))) rfl
                     (ho2.out.alloc _) (fun i => i = w2.heap.size) (.slice (some ⟨w2.heap.size, 0, none⟩) 1 1) 1 [.int .i64 x.1] rfl (Sl.one w2 3 _) (by simp [Value.oneCell']) (by omega) ?_
                   intro A3 c3' w3 ho3 hg3 hat3 _
                   have HW3 := Lib.hid (And.intro ho3 (And.intro hg3 hat3))
                   clear ho3 hg3 hat3)
      go_roundg (D.length + 1 - (n + 1))
      case measure => have := HX.out; omega
      case rel =>
        obtain ⟨k1, k2, k3⟩ := HW3.out
        have hmm : Mod (fun b => (Value.slice A n c).ownBlock = some b) w2 w3 := ((Mod.refl _ _).alloc _).grown k2 (fun k hk _ => hk)
        have hdn : (done ++ [x]).length = n + 1 := by simp [HX.out]
        refine ⟨done ++ [x], A3, c3', by rw [hdn], by omega, by rw [hdn], ?_, ?_, ?_, ?_⟩
        · exact hg2.out.mod hmm (fun e => hg2.out.map.ne_own ho2.out e) (fun e => hne e)
        · rw [hdn, List.map_append]
          have e : Ints (done.map (·.1) ++ [x].map (·.1)) = Ints (done.map (·.1)) ++ [.int .i64 x.1] := by simp [Ints]
          rw [e]
          exact k1
        · rw [hdn]
          intro b hb'
          rcases k3 with e | e
          · rw [e] at hb'; exact hf.out b hb'
          · rw [e] at hb'; injection hb' with hb'; simp at hb'; omega
        · exact hb2.out.trans (hmm.below (by omega) (fun i hi => hf.out i hi))
end Go.Proofs.Ytjdobjcbmmdjeaa
