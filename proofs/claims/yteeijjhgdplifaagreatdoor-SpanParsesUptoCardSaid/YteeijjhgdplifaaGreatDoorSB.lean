/- Spans: behind. -/
import Derived.Test.YteeijjhgdplifaaGreatDoorSA
namespace Go.Proofs.YteeijjhgdplifaaGreatDoor
open Go.RowKit

/-- how many cuts are not above a place -/
def cnt (cs : List Cut) (t : Cut) : Nat := (cs.filter (cle · t)).length
theorem par_cnt (cs : List Cut) (t : Cut) : par cs t = decide (cnt cs t % 2 = 1) := by
  induction cs with
  | nil => rfl
  | cons c cs ih =>
    rw [par]
    unfold cnt at ih ⊢
    cases h : cle c t with
    | true =>
      rw [if_pos rfl, List.filter_cons, if_pos h, List.length_cons, ih, Bool.eq_iff_iff]
      simp only [Bool.not_eq_true', decide_eq_false_iff_not, decide_eq_true_eq]
      omega
    | false => simp only [Bool.false_eq_true, if_false, List.filter_cons, h]; exact ih
theorem cnt_snoc (cs : List Cut) (t : Cut) {i : Nat} {x : Cut} (hx : cs[i]? = some x) : cnt (cs.take (i + 1)) t = cnt (cs.take i) t + if cle x t then 1 else 0 := by
  obtain ⟨h1, h2⟩ := List.getElem?_eq_some_iff.1 hx
  unfold cnt
  rw [List.take_succ_eq_append_getElem h1, h2, List.filter_append, List.length_append]
  congr 1
  cases h : cle x t <;> simp [List.filter_cons, h]
theorem cnt_le (cs : List Cut) (t : Cut) (i : Nat) : cnt (cs.take i) t ≤ i := Nat.le_trans (List.length_filter_le _ _) (List.length_take_le _ _)
/-- Where a row of cuts lies, each may be read. -/
def CReads (w : World) (b o : Nat) (cs : List Cut) : Prop := ∀ wr, Below w.heap.size w wr → ∀ k c, cs[k]? = some c → (loadVar 57 ⟨b, o + k * 7, none⟩).run Tryz.prog wr = .ok (.agg c.cells.toArray) wr
theorem cells_in {cs : List Cut} (hok : Oks cs) {k : Nat} {c : Cut} (hk : cs[k]? = some c) {j : Nat} {v : Value} (hv : c.cells[j]? = some v) : (cutsL cs)[k * 7 + j]? = some v := by
  have hc := hok c (List.mem_of_getElem? hk)
  have hj : j < 7 := by have := (List.getElem?_eq_some_iff.1 hv).1; rw [Cut.cells_len hc] at this; exact this
  induction cs generalizing k with
  | nil => simp at hk
  | cons d cs ih =>
    have e : cutsL (d :: cs) = d.cells ++ cutsL cs := by unfold cutsL; rw [List.flatMap_cons]
    have h7 := Cut.cells_len (hok d (by simp))
    rw [e]
    cases k with
    | zero =>
      obtain rfl : d = c := by simpa using hk
      rw [Nat.zero_mul, Nat.zero_add, List.getElem?_append_left (by omega)]
      exact hv
    | succ k =>
      rw [List.getElem?_append_right (by omega), h7, show (k + 1) * 7 + j - 7 = k * 7 + j by omega]
      exact ih (fun x hx => hok x (List.mem_cons_of_mem _ hx)) (by simpa using hk)
theorem spot_none1 {w : World} {ad : Addr} {u : Value} (h : w.cell? (ad.add 0) = some u) : ad = ⟨ad.block, ad.off, none⟩ := by
  have e : ad.add 0 = ad := by unfold Addr.add; rfl
  rw [e] at h
  cases ad with
  | mk b o s =>
    cases s with
    | none => rfl
    | some k =>
      unfold World.cell? at h
      split at h
      · split at h
        · cases h
        · rename_i hs
          exact absurd rfl hs
      · cases h
theorem creads_of {w : World} {F : Nat → Prop} {A : Option Addr} {n c : Nat} {cs : List Cut} (hok : Oks cs) (h : Sl w F 7 (.slice A n c) n (cutsL cs)) (hn : 0 < n) : ∃ b o, A = some ⟨b, o, none⟩ ∧ CReads w b o cs := by
  obtain ⟨hl, A', c', hv, _, hcc⟩ := h
  obtain ⟨ad, hA, hF, hcell⟩ := hcc hn
  simp only [Value.slice.injEq] at hv
  rw [cutsL_len hok] at hl
  have hcn : cs.length = n := by omega
  obtain ⟨c0, h0⟩ : ∃ c0, cs[0]? = some c0 := ⟨_, List.getElem?_eq_getElem (by omega)⟩
  have hv0 := cells_in hok h0 (c0.cells_at)
  rw [Nat.zero_mul, Nat.zero_add] at hv0
  have hsp := spot_none1 (hcell 0 _ hv0)
  refine ⟨ad.block, ad.off, by rw [hv.1, hA, ← hsp], fun wr hb k x hk => ?_⟩
  have hx := hok x (List.mem_of_getElem? hk)
  refine run_loadVar_mid wr ad.block (ad.off + k * 7) _ x.cells _ (fun j v hj => ?_) Tryz.underlying57 rfl ?_
  · have h1 := hcell (k * 7 + j) _ (cells_in hok hk hj)
    rw [hsp, add_lit0] at h1
    have h2 : w.cell? ⟨ad.block, ad.off + k * 7 + j, none⟩ = some v := by rw [Nat.add_assoc]; exact h1
    exact (hb.cell (p := ⟨ad.block, ad.off + k * 7 + j, none⟩) (World.block_lt_of_cell? w _ h2)).trans h2
  · have hi : (Tryz.prog.info? 57).map (·.size) = some 7 := by kernel_rfl
    rw [Cut.cells_len hx]; exact hi
theorem cut_one1 (c : Cut) : ∀ v ∈ c.cells, v.oneCell' = true := by
  intro v hv
  rcases List.mem_cons.1 hv with rfl | hv
  · rfl
  · have := Ver.cells_one c.v
    rw [Array.all_eq_true_iff_forall_mem] at this
    exact this v (by simpa using hv)
theorem laid_cut (w : World) (U : Cut) : Blk ((w.alloc (.cells #[.int .i64 0, .int .i64 0, .int .i64 0, .int .i64 0, .int .i64 0, .int .i64 0, .string ⟨#[]⟩] 57)).setRow w.heap.size U.cells.toArray) w.heap.size 57 U.cells ∧ Below w.heap.size w ((w.alloc (.cells #[.int .i64 0, .int .i64 0, .int .i64 0, .int .i64 0, .int .i64 0, .int .i64 0, .string ⟨#[]⟩] 57)).setRow w.heap.size U.cells.toArray) := by
  have h1 : Below w.heap.size w (w.alloc (.cells #[.int .i64 0, .int .i64 0, .int .i64 0, .int .i64 0, .int .i64 0, .int .i64 0, .string ⟨#[]⟩] 57)) := (Below.refl _ _).alloc (Nat.le_refl _) _
  exact ⟨(Blk.new w _ _).setRow_ U.cells, h1.trans (((Mod.refl (fun b => w.heap.size ≤ b) _).setRow (fun _ => Nat.le_refl _) _).below h1.size (fun _ h => h))⟩
end Go.Proofs.YteeijjhgdplifaaGreatDoor
/- Spans: behind, walked. -/
namespace Go.Proofs.YteeijjhgdplifaaGreatDoor
open Go.RowKit

set_option maxRecDepth 100000 in
set_option maxHeartbeats 2000000 in
theorem behind_ok (B g : Nat) (cs : List Cut) (t : Cut) (ht : t.Ok) (hl : cs.length ≤ 1000000) (w : World) (h : SpAt w B g cs) : Calls Tryz.prog 48 #[sp0 g, .agg t.cells.toArray] w fun e w' => e = .returned (.bool (par cs t)) ∧ Below w.heap.size w w' ∧ w.drawn ≤ w'.drawn := by
  obtain ⟨w1, hw1⟩ : ∃ w1, w1 = w.alloc (.cells t.cells.toArray 57) := ⟨_, rfl⟩
  obtain ⟨g3, hg3⟩ : ∃ g3, g3 = w.heap.size := ⟨_, rfl⟩
  have hb1 : Below w.heap.size w w1 := by rw [hw1]; exact (Below.refl _ _).alloc (Nat.le_refl _) _
  have k1 : Blk w1 g3 57 t.cells := by rw [hw1, hg3]; exact Blk.new _ _ t.cells.toArray
  obtain ⟨hok, _, A, c, kb, ho, _⟩ := h.below hb1
  obtain ⟨n, hn⟩ : ∃ n, n = cs.length := ⟨_, rfl⟩
  have hsl := Sl.of_own ho
  rw [← hn] at kb hsl hl
  have c1 : w1.cell? ⟨g, 1, none⟩ = some (.slice A n c) := by rw [kb.cell]; rfl
  have l1 := kb.lt
  have HOK : Hid (Oks cs) := Lib.hid hok
  have HT := Lib.hid ht
  have HSL := Lib.hid hsl
  have HN := Lib.hid hn
  have HK3 := Lib.hid k1
  have HB1 : Hid (Below w.heap.size w w1 ∧ w.drawn ≤ w1.drawn) := Lib.hid ⟨hb1, by rw [hw1]; exact Nat.le_refl _⟩
  have H0 : Hid (Below w1.heap.size w1 w1 ∧ w1.drawn ≤ w1.drawn) := Lib.hid ⟨Below.refl _ _, Nat.le_refl _⟩
  have HC0 : Hid (cnt (cs.take 0) t = 0) := Lib.hid rfl
  have HI7 : Hid ((Tryz.prog.info? 57).map (·.size) = some 7) := Lib.hid (by kernel_rfl)
  have HW1 := Lib.hid hw1
  have HG3 := Lib.hid hg3
  clear hw1 hg3 hb1 k1 hok kb ho hn hsl ht h
  obtain ⟨P, hP⟩ : ∃ P, P = par cs t := ⟨_, rfl⟩
  rw [← hP]
  have HPD := Lib.hid hP
  clear hP
  go_enter Tryz.func48, Tryz.ntmps48
  go_upto_region 1 with fail
  rw [← HW1.out, ← HG3.out]
  go_wp2_with fail
  go_loopg [13, 5] n (fun kq iv nv wr => ∃ i m : Nat, iv = .int .i64 i ∧ nv = .int .i64 m ∧ i ≤ n ∧ m ≤ i ∧ kq = n - i ∧ Hid (cnt (cs.take i) t = m) ∧ Hid (Below w1.heap.size w1 wr ∧ w1.drawn ≤ wr.drawn))
  case atStart => exact ⟨0, 0, rfl, rfl, Nat.zero_le _, Nat.le_refl _, rfl, HC0, H0⟩
  case round =>
  clear HC0 H0 c1 l1
  obtain ⟨i, m, rfl, rfl, hi, hm, rfl, HCN, HB⟩ := hrel
  by_cases hlt : i < n
  · have hltI : (i : Int) < (n : Int) := by omega
    have hi0 : 0 ≤ (i : Int) := by omega
    obtain ⟨b, o, rfl, hrd⟩ := creads_of HOK.out HSL.out (by omega)
    obtain ⟨x, hx⟩ : ∃ x, cs[i]? = some x := ⟨_, List.getElem?_eq_getElem (by have := HN.out; omega)⟩
    have LX := Lib.hid (hrd wr HB.out.1 i x hx)
    have HXO : Hid x.Ok := Lib.hid (HOK.out x (List.mem_of_getElem? hx))
    have hcs := cnt_snoc cs t hx
    rw [HCN.out] at hcs
    obtain ⟨g7, hg7⟩ : ∃ g7, g7 = wr.heap.size := ⟨_, rfl⟩
    obtain ⟨w2, hw2⟩ : ∃ w2, w2 = (wr.alloc (.cells #[.int .i64 0, .int .i64 0, .int .i64 0, .int .i64 0, .int .i64 0, .int .i64 0, .string ⟨#[]⟩] 57)).setRow g7 x.cells.toArray := ⟨_, rfl⟩
    have q2 := laid_cut wr x
    have bb2 : Below wr.heap.size wr w2 := by rw [hw2, hg7]; exact q2.2
    have k7 : Blk w2 g7 57 x.cells := by rw [hw2, hg7]; exact q2.1
    have HZ2 : Hid ((wr.alloc (.cells #[.int .i64 0, .int .i64 0, .int .i64 0, .int .i64 0, .int .i64 0, .int .i64 0, .string ⟨#[]⟩] 57)).heap[g7]? = some (.cells (⟨0, Ver.zero⟩ : Cut).cells.toArray 57 (0, 0))) := Lib.hid (by rw [hg7]; exact heap_alloc_new _ _)
    have L7 := Lib.hid (cload k7 HXO.out)
    have L3 := Lib.hid (cload (HK3.out.below' (HB.out.1.trans (bb2.mono HB.out.1.size))) HT.out)
    have HIX : Hid ((Tryz.prog.info? 57).map (·.size) = some x.cells.toArray.size) := Lib.hid (by rw [List.size_toArray, Cut.cells_len HXO.out]; exact HI7.out)
    have HZX : Hid ((⟨0, Ver.zero⟩ : Cut).cells.toArray.size = x.cells.toArray.size) := Lib.hid (by rw [show x.cells.toArray.size = 7 from by rw [List.size_toArray, Cut.cells_len HXO.out]]; rfl)
    have HONE : Hid (x.cells.toArray.all (·.oneCell') = true) := Lib.hid (by
      rw [Array.all_eq_true_iff_forall_mem]
      exact fun v hv => cut_one1 x v (by simpa using hv))
    have HD2 : Hid (w1.drawn ≤ w2.drawn) := Lib.hid (by rw [hw2]; exact HB.out.2)
    have HB2 : Hid (Below w1.heap.size w1 w2) := Lib.hid (HB.out.1.trans (bb2.mono HB.out.1.size))
    have HCS := Lib.hid hcs
    have HG7 := Lib.hid hg7
    have HW2 := Lib.hid hw2
    clear hrd hx hcs hg7 hw2 q2 bb2 k7 HB
    go_upto_region 5 with (first | refine wpList_load_at rfl 57 (.tmp 15) rfl ⟨b, o + i * 7, none⟩ rfl _ LX.out ?_ | refine wpList_store_row rfl 57 (.tmp 7) (.tmp 16) rfl g7 x.cells.toArray (by rw [HG7.out]; rfl) rfl _ _ HZ2.out HIX.out HZX.out HONE.out ?_)
    rw [← HG7.out, ← HW2.out]
    go_wp2_with (first | refine wpList_load_at rfl 57 (.tmp 7) rfl ⟨g7, 0, none⟩ rfl _ L7.out ?_ | refine wpList_load_at rfl 57 (.tmp 3) rfl ⟨g3, 0, none⟩ rfl _ L3.out ?_)
    refine (cutCmp_g x t HXO.out HT.out w2).mono ?_
    rintro e w3 ⟨rfl, hb3, hd3⟩
    have HB3 : Hid (Below w1.heap.size w1 w3 ∧ w1.drawn ≤ w3.drawn) := Lib.hid ⟨HB2.out.trans (hb3.mono HB2.out.size), Nat.le_trans HD2.out hd3⟩
    obtain ⟨C, hC⟩ : ∃ C, C = x.cmp t := ⟨_, rfl⟩
    rw [← hC]
    have HCC := Lib.hid hC
    clear hb3 hd3 hC
    by_cases h0 : C ≤ 0
    · have HN1 : Hid (cnt (cs.take (i + 1)) t = m + 1) := Lib.hid (by rw [HCS.out, if_pos ((cle_iff _ _).2 (by rw [← HCC.out]; exact h0))])
      go_wp2_with fail
      go_roundg (n - (i + 1))
      case measure => omega
      case rel => exact ⟨i + 1, m + 1, by go_num, by go_num, by omega, by omega, rfl, HN1, HB3⟩
    · have h0n : ¬ C ≤ 0 := h0
      have HN1 : Hid (cnt (cs.take (i + 1)) t = m) := Lib.hid (by rw [HCS.out, if_neg (by rw [cle_iff, ← HCC.out]; exact h0)]; rfl)
      go_wp2_with fail
      go_roundg (n - (i + 1))
      case measure => omega
      case rel => exact ⟨i + 1, m, by go_num, rfl, by omega, by omega, rfl, HN1, HB3⟩
  · obtain rfl : i = n := by omega
    have hni : ¬ (i : Int) < (i : Int) := by omega
    have hP := HPD.out
    have hcn := HCN.out
    rw [List.take_of_length_le (by have := HN.out; omega)] at hcn
    have HP : Hid (P = decide (m % 2 = 1)) := Lib.hid (by rw [hP, par_cnt, hcn])
    have HEND : Hid (Below w.heap.size w wr ∧ w.drawn ≤ wr.drawn) := Lib.hid ⟨HB1.out.1.trans (HB.out.1.mono HB1.out.1.size), Nat.le_trans HB1.out.2 HB.out.2⟩
    clear hP hcn HB
    rcases Nat.mod_two_eq_zero_or_one m with hm2 | hm2
    · have e1 : (m : Int) % 2 = 0 := by omega
      have HP0 : Hid (P = false) := Lib.hid (by rw [HP.out, hm2]; rfl)
      have hm0 : 0 ≤ (m : Int) := by omega
      clear HP hm2
      go_wp2_with fail
      go_ret
      exact ⟨by rw [HP0.out]; rfl, HEND.out⟩
    · have e1 : (m : Int) % 2 = 1 := by omega
      have HP0 : Hid (P = true) := Lib.hid (by rw [HP.out, hm2]; rfl)
      have hm0 : 0 ≤ (m : Int) := by omega
      clear HP hm2
      go_wp2_with fail
      go_ret
      exact ⟨by rw [HP0.out]; rfl, HEND.out⟩
end Go.Proofs.YteeijjhgdplifaaGreatDoor
