/- Contracts of stillroomref01 (Number, Bytes) and of stillroomref04 (number, own). -/
import Derived.Test.YtjdobjcbmmdjeaaP7
import Derived.Test.YtjdobjcbmmdjeaaS1
import Derived.Lib.ConvBytes
namespace Go.Proofs.Ytjdobjcbmmdjeaa
open Go.RowKit

set_option maxRecDepth 100000 in
theorem rnumber_ok (w : World) (F : Nat → Prop) (A : Option Addr) (m c : Nat) (l : List UInt8) (h : Sl w F 1 (.slice A m c) m (B8 l)) (h1 : 1 ≤ m) (h8 : m ≤ 8) :
    Calls Try.prog 72 #[.slice A m c] w fun e w' => e = .returned (.tuple #[.int .u64 (numOf l), .int .i64 0]) ∧ w = w' := by
  have hl : l.length = m := by have := h.1; rw [B8_length, Nat.mul_one] at this; exact this
  obtain ⟨_, A', c', hv, hc, hr⟩ := h
  simp only [Value.slice.injEq] at hv
  obtain ⟨rfl, _, rfl⟩ := hv
  obtain ⟨⟨b, o, s⟩, rfl, _, hx⟩ := hr (by omega)
  have hs : s = none := by
    have := hx 0 (.int .u8 (l[0].toNat : Int)) (by simp only [B8, List.getElem?_map, List.getElem?_eq_getElem (show 0 < l.length by omega)]; rfl)
    simpa [Addr.add] using World.cell?_spot this
  subst hs
  have HC : Hid (∀ i x, l[i]? = some x → w.cell? ⟨b, o + i, none⟩ = some (.int .u8 (x.toNat : Int))) := by
    intro i x hi
    have := hx i (.int .u8 (x.toNat : Int)) (by simp only [B8, List.getElem?_map, hi]; rfl)
    rwa [add_lit0] at this
  clear hr hx
  have m1 : ¬ (m : Int) < 1 := by omega
  have m2 : ¬ (8 < (m : Int)) := by omega
  go_enter Try.func72, Try.ntmps72
  go_wp2_with fail
  go_loopg [4, 5] m (fun kq v i wr => ∃ j : Nat, i = .int .i64 j ∧ j ≤ m ∧ kq = m - j ∧ v = .int .u64 (numOf (l.take j)) ∧ wr = w)
  case atStart => exact ⟨0, rfl, by omega, rfl, rfl, rfl⟩
  case round =>
    obtain ⟨j, rfl, hj, rfl, rfl, rfl⟩ := hrel
    by_cases hlt : j < m
    · obtain ⟨x, hx⟩ : ∃ x, l[j]? = some x := ⟨_, List.getElem?_eq_getElem (by omega)⟩
      have hcell := HC.out j x hx
      have hbl : b < wr.heap.size := World.block_lt_of_cell? _ _ hcell
      have hji : (j : Int) < (m : Int) := by omega
      have hnx : numOf (l.take (j + 1)) = numOf (l.take j) * 256 + x.toNat := by
        rw [List.take_add_one, hx]
        exact numOf_snoc _ _
      have hlt2 : numOf (l.take j) < 72057594037927936 := by
        have h1 := numOf_lt (l.take j)
        rw [List.length_take] at h1
        have h2 : 256 ^ (min j l.length) ≤ 256 ^ 7 := Nat.pow_le_pow_right (by omega) (by omega)
        have h3 : (256 : Nat) ^ 7 = 72057594037927936 := by decide
        omega
      obtain ⟨v, hv⟩ : ∃ v, v = numOf (l.take j) := ⟨_, rfl⟩
      rw [← hv] at hnx hlt2 ⊢
      have HNX := Lib.hid hnx
      clear hv hx hnx
      have hx8 := x.toNat_lt
      obtain ⟨p, hp⟩ : ∃ p : Nat, p = v * 256 := ⟨_, rfl⟩
      have w1 : IntKind.u64.wrap ((v : Int) * 256) = (p : Int) := by rw [IntKind.wrap_u64]; omega
      have w2 : IntKind.u64.wrap (x.toNat : Int) = (x.toNat : Int) := by rw [IntKind.wrap_u64]; omega
      have w3 : IntKind.u64.wrap ((p : Int) + (x.toNat : Int)) = ((p + x.toNat : Nat) : Int) := by rw [IntKind.wrap_u64]; omega
      have HP := Lib.hid hp
      clear hp hlt2
      go_wp2_with fail
      go_roundg (m - (j + 1))
      case measure => omega
      case rel => exact ⟨j + 1, by go_num, by omega, rfl, by rw [HNX.out, ← HP.out, Int.natCast_add], rfl⟩
    · obtain rfl : j = m := by omega
      have e : l.take j = l := List.take_of_length_le (by omega)
      rw [e]
      go_wp2_with fail
      go_ret2
      exact ⟨rfl, rfl⟩

/-- the bytes of a text -/
theorem conv_bytes (w : World) (l : List UInt8) : ∃ c w', (convert 9 22 (bstr l)).run Try.prog w = .ok (.slice (some ⟨w.heap.size, 0, none⟩) l.length c) w' ∧
    Sl w' (fun q => q = w.heap.size) 1 (.slice (some ⟨w.heap.size, 0, none⟩) l.length c) l.length (B8 l) ∧ Below w.heap.size w w' := by
  have hs : (⟨l.toArray⟩ : ByteArray).size = l.length := by simp [ByteArray.size]
  have hlt : w.heap.size < (Lib.bytesWorld w 5 ⟨l.toArray⟩).heap.size := by rw [Lib.bytesWorld_size]; omega
  refine ⟨grownCap w (⟨l.toArray⟩ : ByteArray).size 0 5, Lib.bytesWorld w 5 ⟨l.toArray⟩, ?_, ?_, ?_⟩
  · have := Lib.run_convert_string_bytes (P := Try.prog) w 9 22 5 ⟨l.toArray⟩ (u := .string) Try.underlying9 Try.underlying22 Try.underlying5
    rwa [hs] at this ⊢
  · refine ⟨by rw [B8_length, Nat.mul_one], some ⟨w.heap.size, 0, none⟩, _, rfl, ?_, fun _ => ⟨_, rfl, rfl, fun j u hu => ?_⟩⟩
    · rw [hs]; exact grownCap_ge _ _ _ _
    · rw [add_lit0, Nat.zero_add]
      obtain ⟨b, hb, rfl⟩ := B8_get hu
      have hj := (List.getElem?_eq_some_iff.1 hb).1
      rw [Lib.bytesWorld_cell w 5 ⟨l.toArray⟩ j (by rw [hs]; exact hj)]
      simp [List.getD, hb]
  · exact ⟨rfl, rfl, rfl, by omega, fun i hi => Lib.bytesWorld_at_old w 5 _ i hi⟩
theorem bstr_ext (l : List UInt8) (at_ n : Nat) (_h : at_ + n ≤ l.length) : (⟨l.toArray⟩ : ByteArray).extract at_ (at_ + n) = ⟨((l.drop at_).take n).toArray⟩ := by
  apply ByteArray.ext
  simp only [ByteArray.data_extract]
  apply Array.ext'
  simp [List.take_drop]

set_option maxRecDepth 100000 in
theorem num4_ok (w : World) (l : List UInt8) (p : Nat) (hl : l.length = 256) (hp : p + 8 ≤ 256) :
    Calls Try.prog 60 #[bstr l, .int .i64 p] w fun e w' => e = .returned (.int .u64 (numOf ((l.drop p).take 8))) ∧ Below w.heap.size w w' := by
  obtain ⟨c, w1, hcv, hsl, hb⟩ := conv_bytes w ((l.drop p).take 8)
  have hl8 : ((l.drop p).take 8).length = 8 := by rw [List.length_take, List.length_drop]; omega
  rw [hl8] at hcv hsl
  have HN := Lib.hid (rnumber_ok w1 _ _ 8 c _ hsl (by omega) (by omega))
  have hext := bstr_ext l p 8 (by omega)
  have hs : (⟨l.toArray⟩ : ByteArray).size = 256 := by simp [ByteArray.size, hl]
  have HB := Lib.hid hb
  have hcv2 : (convert 9 22 (.string ⟨((l.drop p).take 8).toArray⟩)).run Try.prog w = .ok (.slice (some ⟨w.heap.size, 0, none⟩) 8 c) w1 := hcv
  clear hsl hb hl8 hcv
  unfold bstr
  go_enter Try.func60, Try.ntmps60
  go_wp2_with fail
  refine HN.out.mono ?_
  rintro e w' ⟨rfl, rfl⟩
  go_wp2_with fail
  go_ret
  exact ⟨rfl, HB.out⟩

set_option maxRecDepth 100000 in
theorem rown_ok (w : World) (q a s : Nat) (n : Int) (h1 : w.cell? ⟨q, 1, none⟩ = some (.int .i64 (a : Int))) (h2 : w.cell? ⟨q, 2, none⟩ = some (.int .i64 (s : Int))) (ha : a ≤ 1000000) (hs : s ≤ 1000000) :
    Calls Try.prog 54 #[.pointer (some ⟨q, 0, none⟩), .int .i64 n] w fun e w' => e = .returned (.bool (decide ((a : Int) ≤ n ∧ n < (a : Int) + s))) ∧ Below w.heap.size w w' := by
  obtain ⟨bb, hbb⟩ : ∃ bb, bb = decide ((a : Int) ≤ n ∧ n < (a : Int) + s) := ⟨_, rfl⟩
  rw [← hbb]
  have HBB := Lib.hid hbb
  obtain ⟨t, ht⟩ : ∃ t : Nat, t = a + s := ⟨_, rfl⟩
  have HT : Hid (IntKind.i64.wrap ((a : Int) + s) = (t : Int)) := Lib.hid (by rw [IntKind.wrap_i64]; omega)
  have HTT := Lib.hid ht
  clear hbb
  by_cases c1 : (a : Int) ≤ n
  · by_cases c2 : n < (t : Int)
    · clear ht
      go_enter Try.func54, Try.ntmps54
      obtain ⟨wd, hwd⟩ : ∃ wd, wd = w.drew := ⟨_, rfl⟩
      have HC : Hid (wd.cell? ⟨q, 1, none⟩ = some (.int .i64 (a : Int)) ∧ wd.cell? ⟨q, 2, none⟩ = some (.int .i64 (s : Int))) := Lib.hid (by rw [hwd]; exact ⟨h1, h2⟩)
      have HBW : Hid (Below w.heap.size w wd) := Lib.hid (by rw [hwd]; exact (Below.refl _ _).drew)
      clear h1 h2
      go_upto_region 1 with fail
      try simp only [Act.put, List.setIfInBounds_toArray, List.set_cons_zero, List.set_cons_succ]
      obtain ⟨Inv, hInv⟩ : ∃ Inv : Done → World → Prop, Inv = fun _ wI => (fun wI => wI = wd) wI := ⟨_, rfl⟩
      have HI := Lib.hid hInv
      have hcz : Hid (∀ τ wI, Inv τ wI → wI = wd) := by
        intro τ wI h
        rw [hInv] at h
        exact h
      have H00 : Hid (Inv Done.none w.drew) := by rw [hInv]; exact hwd.symm
      clear hInv hwd
      refine wp_region_inv (by kernel_rfl) [⟨0, false, [], []⟩, ⟨1, false, [], []⟩, ⟨2, false, [], []⟩, ⟨3, false, [], []⟩, ⟨4, false, [], []⟩, ⟨5, false, [], []⟩, ⟨6, false, [], []⟩, ⟨7, false, [], []⟩, ⟨8, false, [], []⟩, ⟨9, false, [], []⟩, ⟨10, false, [], []⟩, ⟨11, false, [], []⟩, ⟨12, false, [], []⟩, ⟨13, false, [], []⟩, ⟨14, false, [], []⟩, ⟨15, false, [], []⟩, ⟨16, false, [], []⟩, ⟨17, false, [], []⟩, ⟨18, false, [], []⟩, ⟨19, false, [], []⟩] (by kernel_rfl) Inv (fun _ _ => True) (fun _ => ⟨undef, trivial⟩) H00.out ?_
      iterate 20 (apply WpI.pure; (simp only [List.getElem?_toArray, List.getElem?_cons_succ, List.getElem?_cons_zero]; rfl); (intro τ wI hA hI; have f0 := hcz.out τ wI hI; have e1 := f0; clear f0; subst e1; have q1 := HC.out.1; have q2 := HC.out.2; have q3 := HT.out; go_simp; exact ⟨hI, Is.rfl'⟩); simp only [Act.put, List.setIfInBounds_toArray, List.set_cons_zero, List.set_cons_succ])
      refine WpI.done ?_
      intro w8 hI
      rw [HI.out] at hI
      have hE := hI
      go_wp2_with fail
      go_ret
      exact ⟨by rw [HBB.out, decide_eq_true (by have := HTT.out; omega)]; rfl, HBW.out⟩
    · clear ht
      go_enter Try.func54, Try.ntmps54
      obtain ⟨wd, hwd⟩ : ∃ wd, wd = w.drew := ⟨_, rfl⟩
      have HC : Hid (wd.cell? ⟨q, 1, none⟩ = some (.int .i64 (a : Int)) ∧ wd.cell? ⟨q, 2, none⟩ = some (.int .i64 (s : Int))) := Lib.hid (by rw [hwd]; exact ⟨h1, h2⟩)
      have HBW : Hid (Below w.heap.size w wd) := Lib.hid (by rw [hwd]; exact (Below.refl _ _).drew)
      clear h1 h2
      go_upto_region 1 with fail
      try simp only [Act.put, List.setIfInBounds_toArray, List.set_cons_zero, List.set_cons_succ]
      obtain ⟨Inv, hInv⟩ : ∃ Inv : Done → World → Prop, Inv = fun _ wI => (fun wI => wI = wd) wI := ⟨_, rfl⟩
      have HI := Lib.hid hInv
      have hcz : Hid (∀ τ wI, Inv τ wI → wI = wd) := by
        intro τ wI h
        rw [hInv] at h
        exact h
      have H00 : Hid (Inv Done.none w.drew) := by rw [hInv]; exact hwd.symm
      clear hInv hwd
      refine wp_region_inv (by kernel_rfl) [⟨0, false, [], []⟩, ⟨1, false, [], []⟩, ⟨2, false, [], []⟩, ⟨3, false, [], []⟩, ⟨4, false, [], []⟩, ⟨5, false, [], []⟩, ⟨6, false, [], []⟩, ⟨7, false, [], []⟩, ⟨8, false, [], []⟩, ⟨9, false, [], []⟩, ⟨10, false, [], []⟩, ⟨11, false, [], []⟩, ⟨12, false, [], []⟩, ⟨13, false, [], []⟩, ⟨14, false, [], []⟩, ⟨15, false, [], []⟩, ⟨16, false, [], []⟩, ⟨17, false, [], []⟩, ⟨18, false, [], []⟩, ⟨19, false, [], []⟩] (by kernel_rfl) Inv (fun _ _ => True) (fun _ => ⟨undef, trivial⟩) H00.out ?_
      iterate 20 (apply WpI.pure; (simp only [List.getElem?_toArray, List.getElem?_cons_succ, List.getElem?_cons_zero]; rfl); (intro τ wI hA hI; have f0 := hcz.out τ wI hI; have e1 := f0; clear f0; subst e1; have q1 := HC.out.1; have q2 := HC.out.2; have q3 := HT.out; go_simp; exact ⟨hI, Is.rfl'⟩); simp only [Act.put, List.setIfInBounds_toArray, List.set_cons_zero, List.set_cons_succ])
      refine WpI.done ?_
      intro w8 hI
      rw [HI.out] at hI
      have hE := hI
      go_wp2_with fail
      go_ret
      exact ⟨by rw [HBB.out, decide_eq_false (by have := HTT.out; omega)]; rfl, HBW.out⟩
  · clear ht
    go_enter Try.func54, Try.ntmps54
    obtain ⟨wd, hwd⟩ : ∃ wd, wd = w.drew := ⟨_, rfl⟩
    have HC : Hid (wd.cell? ⟨q, 1, none⟩ = some (.int .i64 (a : Int)) ∧ wd.cell? ⟨q, 2, none⟩ = some (.int .i64 (s : Int))) := Lib.hid (by rw [hwd]; exact ⟨h1, h2⟩)
    have HBW : Hid (Below w.heap.size w wd) := Lib.hid (by rw [hwd]; exact (Below.refl _ _).drew)
    clear h1 h2
    go_upto_region 1 with fail
    try simp only [Act.put, List.setIfInBounds_toArray, List.set_cons_zero, List.set_cons_succ]
    obtain ⟨Inv, hInv⟩ : ∃ Inv : Done → World → Prop, Inv = fun _ wI => (fun wI => wI = wd) wI := ⟨_, rfl⟩
    have HI := Lib.hid hInv
    have hcz : Hid (∀ τ wI, Inv τ wI → wI = wd) := by
      intro τ wI h
      rw [hInv] at h
      exact h
    have H00 : Hid (Inv Done.none w.drew) := by rw [hInv]; exact hwd.symm
    clear hInv hwd
    refine wp_region_inv (by kernel_rfl) [⟨0, false, [], []⟩, ⟨1, false, [], []⟩, ⟨2, false, [], []⟩, ⟨3, false, [], []⟩, ⟨4, false, [], []⟩, ⟨5, false, [], []⟩, ⟨6, false, [], []⟩, ⟨7, false, [], []⟩, ⟨8, false, [], []⟩, ⟨9, false, [], []⟩, ⟨10, false, [], []⟩, ⟨11, false, [], []⟩, ⟨12, false, [], []⟩, ⟨13, false, [], []⟩, ⟨14, false, [], []⟩, ⟨15, false, [], []⟩, ⟨16, false, [], []⟩, ⟨17, false, [], []⟩, ⟨18, false, [], []⟩, ⟨19, false, [], []⟩] (by kernel_rfl) Inv (fun _ _ => True) (fun _ => ⟨undef, trivial⟩) H00.out ?_
    iterate 20 (apply WpI.pure; (simp only [List.getElem?_toArray, List.getElem?_cons_succ, List.getElem?_cons_zero]; rfl); (intro τ wI hA hI; have f0 := hcz.out τ wI hI; have e1 := f0; clear f0; subst e1; have q1 := HC.out.1; have q2 := HC.out.2; have q3 := HT.out; go_simp; exact ⟨hI, Is.rfl'⟩); simp only [Act.put, List.setIfInBounds_toArray, List.set_cons_zero, List.set_cons_succ])
    refine WpI.done ?_
    intro w8 hI
    rw [HI.out] at hI
    have hE := hI
    go_wp2_with fail
    go_ret
    exact ⟨by rw [HBB.out, decide_eq_false (by omega)]; rfl, HBW.out⟩
set_option maxRecDepth 100000 in
theorem rbytes_ok (w : World) (v : Nat) (hv : v < 18446744073709551616) :
    Calls Try.prog 55 #[.int .u64 v, .int .i64 8] w fun e w' => ∃ A, e = .returned (.tuple #[.slice A 8 8, .int .i64 0]) ∧ w'.ownsRow 0 5 1 (.slice A 8 8) 8 (B8 (bytesOf v)) ∧ (∀ b, (Value.slice A 8 8).ownBlock = some b → w.heap.size ≤ b) ∧ Below w.heap.size w w' := by
  obtain ⟨i, hi1, hz, hsize, hby⟩ := info_parts info5
  obtain ⟨w2, hrun, r1, r2⟩ := run_make_full (P := Try.prog) w 0 22 5 i (.int .u8 0) 1 Try.underlying22 hi1 hz hsize .i64 .i64 8 (by rw [hby]; omega) (by simp only [maxLen]; omega) (Nat.zero_le _)
  have hrun : (Instr.makeSlice 22 (.int .i64 8) (.int .i64 8)).run Try.prog w = .ok (.slice (some ⟨w.heap.size, 0, none⟩) 8 8) w2 := hrun
  rw [zeros_u8] at r1
  have hl := own_lt' r1 rfl
  have HR := Lib.hid (And.intro r1 r2)
  have HV := Lib.hid hv
  clear r1 r2 hz hsize hby hi1 hv
  go_enter Try.func55, Try.ntmps55
  go_wp2_with fail
  go_loopg [0, 7] 8 (fun kq x i wr => ∃ j : Nat, i = .int .i64 (7 - (j : Int)) ∧ j ≤ 8 ∧ kq = 8 - j ∧ x = .int .u64 ((v / 256 ^ j : Nat) : Int) ∧ Hid (wr.ownsRow 0 5 1 (.slice (some ⟨w.heap.size, 0, none⟩) 8 8) 8 (B8 (bytesAt v j))) ∧ Hid (Below w.heap.size w wr))
  case atStart => exact ⟨0, rfl, by omega, rfl, by simp, by rw [bytesAt_zero]; exact HR.out.1, (Below.refl _ _).grown HR.out.2 (Nat.le_refl _) (by simp)⟩
  case round =>
    obtain ⟨j, rfl, hj, rfl, rfl, ho, hb⟩ := hrel
    by_cases hlt : j < 8
    · obtain ⟨p, hp⟩ : ∃ p : Nat, p = 7 - j := ⟨_, rfl⟩
      have ep : (7 : Int) - (j : Int) = (p : Int) := by omega
      rw [ep]
      obtain ⟨u0, hcs⟩ : ∃ u0, wr.cell? ⟨w.heap.size, p, none⟩ = some u0 := by
        have hcs := ho.out.cells rfl p (.int .u8 (((bytesAt v j)[p]'(by simp [bytesAt]; omega)).toNat : Int)) (by simp only [B8, List.getElem?_map, List.getElem?_eq_getElem (show p < (bytesAt v j).length by simp [bytesAt]; omega)]; rfl)
        rw [add_lit0, Nat.zero_add] at hcs
        exact ⟨_, hcs⟩
      have hfz := ho.out.frozenAt p
      have hsz : w.heap.size < wr.heap.size := own_lt' ho.out rfl
      obtain ⟨x, hx⟩ : ∃ x : Nat, x = v / 256 ^ j := ⟨_, rfl⟩
      have hx64 : x < 18446744073709551616 := by rw [hx]; exact Nat.lt_of_le_of_lt (Nat.div_le_self _ _) HV.out
      have hx2 : x / 256 = v / 256 ^ (j + 1) := by rw [hx, Nat.div_div_eq_div_mul, Nat.pow_succ]
      obtain ⟨u, hu⟩ : ∃ u : UInt8, u = UInt8.ofNat x := ⟨_, rfl⟩
      have w1 : IntKind.u8.wrap ((x : Int) % 256) = (u.toNat : Int) := by rw [hu, IntKind.wrap_u8, UInt8.toNat_ofNat']; omega
      have w2 : IntKind.u64.wrap ((x : Int) % 256) = (x : Int) % 256 := by rw [IntKind.wrap_u64]; omega
      have w3 : IntKind.u64.wrap ((x : Int) / 256) = (x : Int) / 256 := by rw [IntKind.wrap_u64]; omega
      rw [← hx]
      have hst := Lib.hid (ho.out.stored p (.int .u8 (u.toNat : Int))).1
      have hbl := Lib.hid (hb.out.setCell (p := ⟨w.heap.size, p, none⟩) (Nat.le_refl _) (.int .u8 (u.toNat : Int)))
      have HX := Lib.hid (And.intro hx2 (And.intro hx (And.intro hu (And.intro hp ep))))
      have hp7 : p < 8 := by omega
      have hpj : (p : Int) - 1 = 7 - ((j : Int) + 1) := by omega
      have HPJ := Lib.hid hpj
      clear hx2 hx hu hp ep hx64 hpj
      go_wp2_with fail
      go_roundg (8 - (j + 1))
      case measure => omega
      case rel =>
        obtain ⟨hx2, hx, hu, hp, ep⟩ := HX.out
        refine ⟨j + 1, by rw [HPJ.out]; rfl, by omega, rfl, by rw [← hx2]; rfl, ?_, hbl⟩
        have h := hst.out
        have e : (B8 (bytesAt v j)).set p (.int .u8 (u.toNat : Int)) = B8 (bytesAt v (j + 1)) := by
          rw [← bytesAt_set v j hlt, hu, hp, hx]; simp only [B8, List.map_set]
        rw [e] at h
        exact Lib.hid h
    · obtain rfl : j = 8 := by omega
      go_wp2_with fail
      go_ret2
      exact ⟨_, rfl, by rw [← bytesAt_all]; exact ho.out, fun b hb => by simp [Value.ownBlock] at hb; omega, hb.out⟩
end Go.Proofs.Ytjdobjcbmmdjeaa
