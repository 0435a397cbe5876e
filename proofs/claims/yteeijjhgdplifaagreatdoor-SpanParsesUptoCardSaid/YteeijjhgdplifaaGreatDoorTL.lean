/- Spans: span.Parse. -/
import Derived.Test.YteeijjhgdplifaaGreatDoorTK
import Derived.Test.YteeijjhgdplifaaGreatDoorTF
namespace Go.Proofs.YteeijjhgdplifaaGreatDoor
open Go.RowKit

theorem splitC_le {c : UInt8} : ∀ {s x : List UInt8}, x ∈ splitC c s → x.length ≤ s.length
  | [], x, h => by simp [splitC] at h; subst h; exact Nat.le_refl _
  | b :: r, x, h => by
    unfold splitC at h
    split at h
    · rcases List.mem_cons.1 h with rfl | h
      · exact Nat.zero_le _
      · exact Nat.le_succ_of_le (splitC_le h)
    · cases e : splitC c r with
      | nil => exact absurd e (splitC_ne c r)
      | cons y ys =>
        rw [e] at h
        rcases List.mem_cons.1 h with rfl | h
        · exact Nat.succ_le_succ (splitC_le (s := r) (x := y) (by rw [e]; simp))
        · exact Nat.le_succ_of_le (splitC_le (s := r) (x := x) (by rw [e]; exact List.mem_cons_of_mem _ h))
/-- What Parse answers of a text. -/
def RangeIs (w0 w : World) (s : List UInt8) (p : Value) : Prop := (okP s = false ∧ p = .pointer none) ∨ (okP s = true ∧ ∃ g cs, p = sp0 g ∧ SpAt w w0.heap.size g cs ∧ IsSet cs 600 ∧ ∀ t, t.Ok → cle topC t = false → par cs t = hasP s t)
def errP (s : List UInt8) : Int := if okP s then 0 else 21
theorem okP_bad {s a : List UInt8} (ha : a ∈ splitC 124 s) (h : okA a = false) : okP s = false := by
  rw [okP_eq]
  have : (splitC 124 s).all okA = false := by
    rw [List.all_eq_false]
    exact ⟨a, ha, by rw [h]; decide⟩
  rw [this, Bool.and_false]
theorem okA_bad {a x : List UInt8} (hx : x ∈ splitC 44 a) (h : termP x = none) : okA a = false := by
  unfold okA
  have : ((splitC 44 a).all fun x => (termP x).isSome) = false := by
    rw [List.all_eq_false]
    exact ⟨x, hx, by rw [h]; decide⟩
  rw [this, Bool.and_false]
theorem laid_strs (w : World) (L : List (List UInt8)) : Blk (w.alloc (.cells (L.map fun l => Value.string (bl l)).toArray 9)) w.heap.size 9 (strsL L) := Blk.new _ _ _
set_option maxRecDepth 100000 in
set_option maxHeartbeats 4000000 in
theorem spParse_ok (s : ByteArray) (hs : s.size ≤ 4000000000) (w : World) (hg : GV w) : Calls Tryz.prog 7 #[.string s] w fun e w' => ∃ p, e = .returned (.tuple #[p, .int .i64 (errP s.data.toList)]) ∧ RangeIs w w' s.data.toList p ∧ Below w.heap.size w w' := by
  obtain ⟨ER, hER⟩ : ∃ ER, ER = errP s.data.toList := ⟨_, rfl⟩
  rw [← hER]
  have HER := Lib.hid hER
  have HBAD : Hid (okP s.data.toList = false → ER = 21) := Lib.hid (fun h => by rw [hER]; unfold errP; rw [h]; rfl)
  obtain ⟨L, hL⟩ : ∃ L, L = splitC 124 s.data.toList := ⟨_, rfl⟩
  obtain ⟨n, hn⟩ : ∃ n, n = L.length := ⟨_, rfl⟩
  have HL := Lib.hid hL
  have HN := Lib.hid hn
  have HLE : Hid (∀ x ∈ L, x.length ≤ 4000000000) := Lib.hid (fun x hx => by rw [hL] at hx; have := splitC_le hx; have := Lib.size_eq s; omega)
  have HG := Lib.hid hg
  have HSP : Hid (∀ wI, Below w.heap.size w wI → Calls Tryz.prog 22 #[.string s, .string (bl [124])] wI fun e w' => e = .returned (.slice (some ⟨wI.heap.size, 0, none⟩) n n) ∧ w' = wI.alloc (.cells (L.map fun l => Value.string (bl l)).toArray 9)) := Lib.hid (fun wI hb => by rw [hn, hL]; exact split_ok s 124 (by omega) wI (hg.below hb))
  clear hER hL hn hg hs
  go_enter Tryz.func7, Tryz.ntmps7
  go_wp2_with fail
  refine (spNone_ok w).mono ?_
  rintro e w1 ⟨rfl, hs1, hb1⟩
  obtain ⟨g0, hg0⟩ : ∃ g0, g0 = w.heap.size := ⟨_, rfl⟩
  have HS1 : Hid (SpAt w1 w.heap.size g0 []) := Lib.hid (by rw [hg0]; exact hs1)
  have HB1 := Lib.hid hb1
  rw [← hg0]
  clear hs1 hb1 hg0
  go_wp2_with fail
  refine (HSP.out w1 HB1.out).mono ?_
  rintro e w2 ⟨rfl, hw2⟩
  obtain ⟨gA, hgA⟩ : ∃ gA, gA = w1.heap.size := ⟨_, rfl⟩
  rw [← hgA]
  have kA : Blk w2 gA 9 (strsL L) := by rw [hw2, hgA]; exact laid_strs w1 L
  have hb2 : Below w1.heap.size w1 w2 := by rw [hw2]; exact (Below.refl _ _).alloc (Nat.le_refl _) _
  have KA := Lib.hid kA
  have HB2 : Hid (Below w.heap.size w w2) := Lib.hid (HB1.out.trans (hb2.mono HB1.out.size))
  have HS2 := Lib.hid (HS1.out.below hb2)
  clear hgA kA hb2 hw2 HSP HS1 HB1
  by_cases h16 : 16 < n
  · have h16I : 16 < (n : Int) := by omega
    have HBD : Hid (okP s.data.toList = false) := Lib.hid (by rw [okP_eq, ← HL.out, ← HN.out, decide_eq_false (by omega)]; rfl)
    go_wp2_with fail
    go_ret2
    exact ⟨_, by rw [HBAD.out HBD.out]; rfl, .inl ⟨HBD.out, rfl⟩, HB2.out⟩
  have h16I : ¬ 16 < (n : Int) := by omega
  have HP0 : Hid (∀ t, t.Ok → cle topC t = false → par [] t = (L.take 0).any (hasA · t)) := Lib.hid (fun t _ _ => rfl)
  have HA0 : Hid ((L.take 0).all okA = true) := Lib.hid rfl
  have HI0 : Hid (IsSet [] (0 * 34)) := Lib.hid isSet_none
  have HB20 : Hid (Below w2.heap.size w2 w2) := Lib.hid (Below.refl _ _)
  go_wp2_with fail
  go_loopg [22, 4] n (fun kq iv pv wr => ∃ (i g4 : Nat) (cs : List Cut), iv = .int .i64 i ∧ pv = sp0 g4 ∧ i ≤ n ∧ kq = n - i ∧ Hid (SpAt wr w.heap.size g4 cs) ∧ Hid (IsSet cs (i * 34)) ∧ Hid (∀ t, t.Ok → cle topC t = false → par cs t = (L.take i).any (hasA · t)) ∧ Hid ((L.take i).all okA = true) ∧ Hid (Below w2.heap.size w2 wr))
  case atStart => exact ⟨0, g0, [], rfl, rfl, Nat.zero_le _, rfl, HS2, HI0, HP0, HA0, HB20⟩
  case round =>
  clear HS2 HI0 HP0 HA0 HB20
  obtain ⟨i, g4, cs, rfl, rfl, hi, rfl, HS, HI, HP, HA, HB⟩ := hrel
  have HBW : Hid (Below w.heap.size w wr) := Lib.hid (HB2.out.trans (HB.out.mono HB2.out.size))
  by_cases hlt : i < n
  · have hltI : (i : Int) < (n : Int) := by omega
    have hi0 : 0 ≤ (i : Int) := by omega
    obtain ⟨a, ha⟩ : ∃ a, L[i]? = some a := ⟨_, List.getElem?_eq_getElem (by rw [← HN.out]; exact hlt)⟩
    have HAM : Hid (a ∈ splitC 124 s.data.toList) := Lib.hid (by rw [← HL.out]; exact List.mem_of_getElem? ha)
    have HAL : Hid (a.length ≤ 4000000000) := Lib.hid (HLE.out a (List.mem_of_getElem? ha))
    have HTK : Hid (L.take (i + 1) = L.take i ++ [a]) := Lib.hid (by rw [List.take_add_one, ha]; rfl)
    obtain ⟨X, hX⟩ : ∃ X, X = bl a := ⟨_, rfl⟩
    have c0 : wr.cell? ⟨gA, i, none⟩ = some (.string X) := by rw [((KA.out.below' HB.out)).cell, strsL_get ha, hX]
    obtain ⟨M, hM⟩ : ∃ M, M = splitC 44 a := ⟨_, rfl⟩
    obtain ⟨m, hm⟩ : ∃ m, m = M.length := ⟨_, rfl⟩
    have HM := Lib.hid hM
    have HMN := Lib.hid hm
    have HLE2 : Hid (∀ x ∈ M, x.length ≤ 4000000000) := Lib.hid (fun x hx => by rw [hM] at hx; have := splitC_le hx; have := HAL.out; omega)
    have HSP : Hid (∀ wI, Below w.heap.size w wI → Calls Tryz.prog 22 #[.string X, .string (bl [44])] wI fun e w' => e = .returned (.slice (some ⟨wI.heap.size, 0, none⟩) m m) ∧ w' = wI.alloc (.cells (M.map fun l => Value.string (bl l)).toArray 9)) := Lib.hid (fun wI hb => by
      have := split_ok X 44 (by have := HAL.out; rw [hX, bl_size]; omega) wI (HG.out.below hb)
      rw [show X.data.toList = a by rw [hX]] at this
      rw [hm, hM]; exact this)
    clear ha hX hM hm
    go_wp2_with fail
    refine (spAll_ok wr).mono ?_
    rintro e w3 ⟨g8, rfl, h8, hb3⟩
    have HB3 : Hid (Below w.heap.size w w3) := Lib.hid (HBW.out.trans (hb3.mono HBW.out.size))
    have HS3 := Lib.hid (HS.out.below hb3)
    have HS8 := Lib.hid (h8.lower HBW.out.size)
    have HBA3 : Hid (Below w2.heap.size w2 w3) := Lib.hid (HB.out.trans (hb3.mono HB.out.size))
    clear h8 hb3 c0 HS HB
    go_wp2_with fail
    refine (HSP.out w3 HB3.out).mono ?_
    rintro e w4 ⟨rfl, hw4⟩
    obtain ⟨gT, hgT⟩ : ∃ gT, gT = w3.heap.size := ⟨_, rfl⟩
    rw [← hgT]
    have kT : Blk w4 gT 9 (strsL M) := by rw [hw4, hgT]; exact laid_strs w3 M
    have hb4 : Below w3.heap.size w3 w4 := by rw [hw4]; exact (Below.refl _ _).alloc (Nat.le_refl _) _
    have KT := Lib.hid kT
    have HB4 : Hid (Below w.heap.size w w4) := Lib.hid (HB3.out.trans (hb4.mono HB3.out.size))
    have HBA4 : Hid (Below w2.heap.size w2 w4) := Lib.hid (HBA3.out.trans (hb4.mono HBA3.out.size))
    have HS4 := Lib.hid (HS3.out.below hb4)
    have HS84 := Lib.hid (HS8.out.below hb4)
    clear hgT kT hb4 hw4 HSP HS3 HS8 HB3 HBA3
    by_cases h16m : 16 < m
    · have h16mI : 16 < (m : Int) := by omega
      have HBD : Hid (okP s.data.toList = false) := Lib.hid (okP_bad HAM.out (by unfold okA; rw [← HM.out, ← HMN.out, decide_eq_false (by omega)]; rfl))
      go_wp2_with fail
      go_ret2
      exact ⟨_, by rw [HBAD.out HBD.out]; rfl, .inl ⟨HBD.out, rfl⟩, HB4.out⟩
    have h16mI : ¬ 16 < (m : Int) := by omega
    have HP0 : Hid (∀ t, t.Ok → cle topC t = false → par allCuts t = (M.take 0).all (hasX · t)) := Lib.hid (fun t _ ht => par_all ht)
    have HA0 : Hid (((M.take 0).all fun x => (termP x).isSome) = true) := Lib.hid rfl
    have HI0 : Hid (IsSet allCuts (2 + 2 * 0)) := Lib.hid (isSet_spl botC_m topC_m)
    have HB40 : Hid (Below w4.heap.size w4 w4) := Lib.hid (Below.refl _ _)
    go_wp2_with fail
    go_loopg [34, 8] m (fun kq jv pv wr => ∃ (j g8 : Nat) (ds : List Cut), jv = .int .i64 j ∧ pv = sp0 g8 ∧ j ≤ m ∧ kq = m - j ∧ Hid (SpAt wr w.heap.size g8 ds) ∧ Hid (IsSet ds (2 + 2 * j)) ∧ Hid (∀ t, t.Ok → cle topC t = false → par ds t = (M.take j).all (hasX · t)) ∧ Hid (((M.take j).all fun x => (termP x).isSome) = true) ∧ Hid (Below w4.heap.size w4 wr))
    case atStart => exact ⟨0, g8, allCuts, rfl, rfl, Nat.zero_le _, rfl, HS84, HI0, HP0, HA0, HB40⟩
    case round =>
    clear HS84 HI0 HP0 HA0 HB40
    obtain ⟨j, g8, ds, rfl, rfl, hj, rfl, HS8, HI8, HP8, HA8, HB8⟩ := hrel
    have HBW8 : Hid (Below w.heap.size w wr) := Lib.hid (HB4.out.trans (HB8.out.mono HB4.out.size))
    by_cases hltm : j < m
    · have hltmI : (j : Int) < (m : Int) := by omega
      have hj0 : 0 ≤ (j : Int) := by omega
      obtain ⟨x, hx⟩ : ∃ x, M[j]? = some x := ⟨_, List.getElem?_eq_getElem (by rw [← HMN.out]; exact hltm)⟩
      have HXM : Hid (x ∈ splitC 44 a) := Lib.hid (by rw [← HM.out]; exact List.mem_of_getElem? hx)
      have hxl := HLE2.out x (List.mem_of_getElem? hx)
      have HTKM : Hid (M.take (j + 1) = M.take j ++ [x]) := Lib.hid (by rw [List.take_add_one, hx]; rfl)
      obtain ⟨Y, hY⟩ : ∃ Y, Y = bl x := ⟨_, rfl⟩
      have c0 : wr.cell? ⟨gT, j, none⟩ = some (.string Y) := by rw [((KT.out.below' HB8.out)).cell, strsL_get hx, hY]
      obtain ⟨OK, hOK⟩ : ∃ OK, OK = (termP x).isSome := ⟨_, rfl⟩
      have HTM : Hid (Calls Tryz.prog 23 #[.string Y] wr fun e w' => ∃ p, e = .returned (.tuple #[p, .bool OK]) ∧ TermIs wr w' x p ∧ Below wr.heap.size wr w') := Lib.hid (by
        have := spTerm_ok Y (by rw [hY, bl_size]; exact hxl) wr (HG.out.below HBW8.out)
        rw [show Y.data.toList = x by rw [hY]] at this
        rw [hOK]; exact this)
      have HOK := Lib.hid hOK
      clear hx hxl hY hOK
      go_wp2_with fail
      refine HTM.out.mono ?_
      rintro e w5 ⟨p, rfl, htm, hb5⟩
      have HB5 : Hid (Below w.heap.size w w5) := Lib.hid (HBW8.out.trans (hb5.mono HBW8.out.size))
      have HB45 : Hid (Below w4.heap.size w4 w5) := Lib.hid (HB8.out.trans (hb5.mono HB8.out.size))
      have HS85 := Lib.hid (HS8.out.below hb5)
      rcases htm with ⟨htn, rfl⟩ | ⟨es, g9, htn, rfl, hs9⟩
      · have HBD : Hid (okP s.data.toList = false) := Lib.hid (okP_bad HAM.out (okA_bad HXM.out htn))
        have hok : OK = false := by rw [HOK.out, htn]; rfl
        subst hok
        clear hb5 htn c0
        go_wp2_with fail
        go_ret2
        exact ⟨_, by rw [HBAD.out HBD.out]; rfl, .inl ⟨HBD.out, rfl⟩, HB5.out⟩
      · have hok : OK = true := by rw [HOK.out, htn]; rfl
        subst hok
        obtain ⟨es', op, v, ht2, _, _, _, hes, _⟩ := (term_alike x).resolve_left (fun h => by rw [htn] at h; cases h.1)
        obtain rfl : es = es' := Option.some.inj (htn.symm.trans ht2)
        have HES := Lib.hid hes
        have HHX : Hid (∀ t, hasX x t = par es t) := Lib.hid (fun t => by unfold hasX; rw [htn])
        have HTS : Hid ((termP x).isSome = true) := HOK.out.symm |> Lib.hid
        have hal := spAnd_ok w.heap.size g8 wr.heap.size g9 ds es HI8.out.prs hes.prs (by have := HI8.out.len; omega) (by have := hes.len; omega) w5 HS85.out hs9
        have HAN := Lib.hid hal
        clear hb5 htn c0 ht2 hes hs9 hal
        go_wp2_with fail
        refine HAN.out.mono ?_
        rintro e w6 ⟨gr, rfl, fs, hs6, hm6, hb6⟩
        have HSN := Lib.hid (hs6.lower HB5.out.size)
        have HB46 : Hid (Below w4.heap.size w4 w6) := Lib.hid (HB45.out.trans (hb6.mono HB45.out.size))
        have HIN : Hid (IsSet fs (2 + 2 * (j + 1))) := Lib.hid ((IsSet.merged rfl HI8.out HES.out hm6).mono (by omega))
        have HPN : Hid (∀ t, t.Ok → cle topC t = false → par fs t = (M.take (j + 1)).all (hasX · t)) := Lib.hid (fun t ht htop => by
          rw [hm6.par t ht, HP8.out t ht htop, HTKM.out, List.all_append]
          simp only [List.all_cons, List.all_nil, Bool.and_true, HHX.out])
        have HAN2 : Hid (((M.take (j + 1)).all fun x => (termP x).isSome) = true) := Lib.hid (by rw [HTKM.out, List.all_append, HA8.out]; simp only [List.all_cons, List.all_nil, Bool.and_true, HTS.out])
        clear hs6 hm6 hb6
        go_wp2_with fail
        go_roundg (m - (j + 1))
        case measure => omega
        case rel => exact ⟨j + 1, gr, fs, by go_num, rfl, by omega, rfl, HSN, HIN, HPN, HAN2, HB46⟩
    · obtain rfl : j = m := by omega
      have hni : ¬ (j : Int) < (j : Int) := by omega
      have HTA : Hid (M.take j = M) := Lib.hid (List.take_of_length_le (by rw [← HMN.out]; exact Nat.le_refl _))
      have HOA : Hid (okA a = true) := Lib.hid (by
        have h := HA8.out
        rw [HTA.out, HM.out] at h
        unfold okA
        rw [h, ← HM.out, ← HMN.out, decide_eq_true (by omega)]
        rfl)
      have HPA : Hid (∀ t, t.Ok → cle topC t = false → par ds t = hasA a t) := Lib.hid (fun t ht htop => by rw [HP8.out t ht htop, HTA.out, HM.out]; rfl)
      have hal := spOr_ok w.heap.size g4 w.heap.size g8 cs ds HI.out.prs HI8.out.prs (by have := HI.out.len; omega) (by have := HI8.out.len; omega) wr (HS4.out.below HB8.out) HS8.out
      have HAN := Lib.hid hal
      clear hal
      go_wp2_with fail
      refine HAN.out.mono ?_
      rintro e w6 ⟨gr, rfl, fs, hs6, hm6, hb6⟩
      have HSN := Lib.hid (hs6.lower HBW8.out.size)
      have HBN : Hid (Below w2.heap.size w2 w6) := Lib.hid ((HBA4.out.trans (HB8.out.mono HBA4.out.size)).trans (hb6.mono (Nat.le_trans HBA4.out.size HB8.out.size)))
      have HIN : Hid (IsSet fs ((i + 1) * 34)) := Lib.hid ((IsSet.merged rfl HI.out HI8.out hm6).mono (by omega))
      have HPN : Hid (∀ t, t.Ok → cle topC t = false → par fs t = (L.take (i + 1)).any (hasA · t)) := Lib.hid (fun t ht htop => by
        rw [hm6.par t ht, HP.out t ht htop, HPA.out t ht htop, HTK.out, List.any_append]
        simp only [List.any_cons, List.any_nil, Bool.or_false])
      have HAN2 : Hid ((L.take (i + 1)).all okA = true) := Lib.hid (by rw [HTK.out, List.all_append, HA.out]; simp only [List.all_cons, List.all_nil, Bool.and_true, HOA.out])
      clear hs6 hm6 hb6
      go_wp2_with fail
      go_roundg (n - (i + 1))
      case measure => omega
      case rel => exact ⟨i + 1, gr, fs, by go_num, rfl, by omega, rfl, HSN, HIN, HPN, HAN2, HBN⟩
  · obtain rfl : i = n := by omega
    have hni : ¬ (i : Int) < (i : Int) := by omega
    have HTA : Hid (L.take i = L) := Lib.hid (List.take_of_length_le (by rw [← HN.out]; exact Nat.le_refl _))
    have HOP : Hid (okP s.data.toList = true) := Lib.hid (by
      have h := HA.out
      rw [HTA.out] at h
      rw [okP_eq, ← HL.out, h, ← HN.out, decide_eq_true (by omega)]
      rfl)
    have HER0 : Hid (ER = 0) := Lib.hid (by rw [HER.out]; unfold errP; rw [HOP.out]; rfl)
    have HRI : Hid (RangeIs w wr s.data.toList (sp0 g4)) := Lib.hid (.inr ⟨HOP.out, g4, cs, rfl, HS.out, HI.out.mono (by omega), fun t ht htop => by rw [HP.out t ht htop, HTA.out, HL.out]; rfl⟩)
    clear HS HI HP HA HB
    go_wp2_with fail
    go_ret2
    exact ⟨_, by rw [HER0.out]; rfl, HRI.out, HBW.out⟩
end Go.Proofs.YteeijjhgdplifaaGreatDoor
