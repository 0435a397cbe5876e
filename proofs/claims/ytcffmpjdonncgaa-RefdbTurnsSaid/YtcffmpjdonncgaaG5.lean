/- RefdbX: what the laws look with: has. -/
import Derived.Test.YtcffmpjdonncgaaG4
import Derived.Test.YtcffmpjdonncgaaPRefx6
namespace Go.Proofs.Ytcffmpjdonncgaa
open Go.RowKit Go.Proofs.YtcffmpjdonncgaaW.PrintWords

open Classical in
noncomputable def inB (l : List ByteArray) (p : ByteArray) : Bool := decide (p ∈ l)
theorem inB_iff {l : List ByteArray} {p : ByteArray} : inB l p = true ↔ p ∈ l := by classical simp [inB]
theorem inB_no {l : List ByteArray} {p : ByteArray} (h : p ∉ l) : inB l p = false := by
  cases e : inB l p with
  | false => rfl
  | true => exact (h (inB_iff.1 e)).elim
theorem str_eq {a b : ByteArray} : a.toList = b.toList ↔ a = b := by
  rw [ByteArray.toList_eq, ByteArray.toList_eq]
  exact ⟨ba_ext, fun h => by rw [h]⟩
theorem lhas_ok (w : World) (F : Nat → Prop) (A : Option Addr) (n c : Nat) (l : List ByteArray) (p : ByteArray) (h : Sl w F 1 (.slice A n c) n (strs l)) (hn : n ≤ 1000000000) :
    Calls Try.prog 12 #[.slice A n c, .string p] w fun e w' => e = .returned (.bool (inB l p)) ∧ w = w' := by
  have hpl : l.length = n := by have := h.1; rw [strs_length, Nat.mul_one] at this; exact this
  have HP := Lib.hid h
  have HPL := Lib.hid hpl
  clear h hpl
  go_enter Try.func12, Try.ntmps12
  go_wp2_with fail
  go_loopg [5] n (fun kq iv wr => ∃ (i : Nat), iv = .int .i64 i ∧ i ≤ n ∧ kq = n - i ∧ wr = w ∧ Hid (p ∉ l.take i))
  case atStart => exact ⟨0, rfl, Nat.zero_le _, rfl, rfl, Lib.hid (by simp)⟩
  case round =>
    obtain ⟨i, rfl, hi, rfl, rfl, hall⟩ := hrel
    by_cases hlt : i < n
    · obtain ⟨_, A', c', hv, _, hcc⟩ := HP.out
      obtain ⟨ad, hA, _, hcell⟩ := hcc (by omega)
      simp only [Value.slice.injEq] at hv
      obtain ⟨p0, hp0⟩ : ∃ p0, l[i]? = some p0 := ⟨_, List.getElem?_eq_getElem (by rw [HPL.out]; exact hlt)⟩
      have h0 := hcell 0 _ (strs_get (List.getElem?_eq_getElem (show 0 < l.length by rw [HPL.out]; omega)))
      have hsp := spot_none h0
      obtain rfl : A = some ⟨ad.block, ad.off, none⟩ := by rw [hv.1, hA, ← hsp]
      have hc0 := hcell i _ (strs_get hp0)
      rw [hsp, add_lit0] at hc0
      have HP0 := Lib.hid hp0
      clear hcc hcell hA hv h0 hsp hp0
      by_cases he : p0 = p
      · subst he
        have HE : Hid (inB l p0 = true) := Lib.hid (inB_iff.2 (List.mem_of_getElem? HP0.out))
        go_wp2_with fail
        go_ret
        exact ⟨by rw [HE.out]; rfl, rfl⟩
      · have hne : (p0.toList == p.toList) = false := by
          cases e : (p0.toList == p.toList) with
          | false => rfl
          | true => exact (he (str_eq.1 (eq_of_beq e))).elim
        have HN : Hid (p ∉ l.take (i + 1)) := by
          obtain ⟨hil, hxe⟩ := List.getElem?_eq_some_iff.1 HP0.out
          rw [List.take_succ_eq_append_getElem hil, hxe]
          refine Lib.hid fun hp => ?_
          rcases List.mem_append.1 hp with hp | hp
          · exact hall.out hp
          · rw [List.mem_singleton] at hp; exact he hp.symm
        clear he
        go_wp2_with fail
        go_roundg (n - (i + 1))
        case measure => omega
        case rel => exact ⟨i + 1, by go_num, by omega, rfl, rfl, HN⟩
    · obtain rfl : i = n := by omega
      have HE : Hid (inB l p = false) := by
        have := hall.out
        rw [List.take_of_length_le (by rw [HPL.out]; exact Nat.le_refl _)] at this
        exact Lib.hid (inB_no this)
      clear hall
      go_wp2_with fail
      go_ret
      exact ⟨by rw [HE.out]; rfl, rfl⟩
end Go.Proofs.Ytcffmpjdonncgaa
/- RefdbX: what the laws look with: few, own, same. -/
namespace Go.Proofs.Ytcffmpjdonncgaa
open Go.RowKit Go.Proofs.YtcffmpjdonncgaaW.PrintWords
open Go.Proofs.Ytcffmpjdonncgaa.PRef

theorem w64 {n : Nat} (h : n ≤ 1000000000000000000) : wrap64 ((n : Int) + 1) = ((n + 1 : Nat) : Int) := by unfold wrap64; omega
theorem rdT {l : List S33} {i : Nat} {x : S33} (h : l[i]? = some x) : rd_T33 l (i : Int) = x := by
  unfold rd_T33
  rw [List.getD_eq_getElem?_getD]
  simp [h]
theorem rdO {l : List ByteArray} {i : Nat} {x : ByteArray} (h : l[i]? = some x) : rdOf ByteArray.empty l (i : Int) = x := by
  unfold rdOf
  rw [List.getD_eq_getElem?_getD]
  simp [h]
theorem own_l0 (l : List S33) (hl : l.length ≤ 1000000000) (hf : ∀ x ∈ l, x.f3.length ≤ 1000000000000) (d : Nat) : ∀ (k i : Nat), i ≤ l.length → l.length - i = d → d < k → stillroomlaw12_own.l0 k l (l.take i) (i : Int) = some l := by
  induction d with
  | zero =>
    intro k i hi hd hk
    obtain ⟨k, rfl⟩ : ∃ m, k = m + 1 := ⟨k - 1, by omega⟩
    obtain rfl : i = l.length := by omega
    simp only [stillroomlaw12_own.l0]
    rw [if_neg (by omega), List.take_length]
  | succ d ih =>
    intro k i hi hd hk
    obtain ⟨k, rfl⟩ : ∃ m, k = m + 1 := ⟨k - 1, by omega⟩
    obtain ⟨x, hx⟩ : ∃ x, l[i]? = some x := ⟨_, List.getElem?_eq_getElem (show i < l.length by omega)⟩
    obtain ⟨hil, hxe⟩ := List.getElem?_eq_some_iff.1 hx
    have hxf := hf x (List.mem_of_getElem? hx)
    have h1 := ih k (i + 1) (by omega) (by omega) (by omega)
    rw [List.take_succ_eq_append_getElem hil, hxe] at h1
    have h2 : (l.take i).length ≤ i := List.length_take_le _ _
    simp only [stillroomlaw12_own.l0]
    rw [if_pos (by omega), if_pos (by omega), rdT hx, w64 (by omega)]
    simp only [Option.bind_some, List.length_nil, List.nil_append, Nat.zero_add]
    rw [if_pos (by omega), if_pos (by omega)]
    exact h1
theorem own_ok (w : World) (A : Option Addr) (n c : Nat) (l : List S33) (h : Kd.C k33 w A n l) (hc : n ≤ c) (hl : l.length ≤ 1000000000) (hf : ∀ x ∈ l, x.f3.length ≤ 1000000000000) :
    Calls Try.prog 10 #[.slice A n c] w fun e w' => ∃ A' c', e = .returned (.slice A' l.length c') ∧ Kd.C k33 w' A' l.length l ∧ l.length ≤ c' ∧ Below w.heap.size w w' := by
  obtain rfl : l.length = n := h.1
  have hrun : stillroomlaw12_own.f (l.length + 1) l = some l := by
    unfold stillroomlaw12_own.f
    have := own_l0 l hl hf l.length (l.length + 1) 0 (Nat.zero_le _) (by omega) (by omega)
    simpa using this
  refine (stillroomlaw12_own.calls (l.length + 1) A c l l w h hc hrun).mono ?_
  rintro e w' ⟨v, rfl, hs, hb⟩
  obtain ⟨A', c', rfl, h1, h2⟩ := Kd.S_reads hs
  exact ⟨A', c', rfl, h2, h1, hb⟩

def fewR : List S33 → Nat → Bool
  | [], s => decide (s < 400)
  | x :: r, s => if s < 400 then fewR r (s + x.f3.length) else false
theorem few_l0 (l : List S33) (hl : l.length ≤ 100000000000000) (hf : ∀ x ∈ l, x.f3.length ≤ 100000000000000) (d : Nat) : ∀ (k i s : Nat), i ≤ l.length → l.length - i = d → d < k → stillroomlaw12_few.l0 k l (s : Int) (i : Int) = some (fewR (l.drop i) s) := by
  induction d with
  | zero =>
    intro k i s hi hd hk
    obtain ⟨k, rfl⟩ : ∃ m, k = m + 1 := ⟨k - 1, by omega⟩
    obtain rfl : i = l.length := by omega
    simp only [stillroomlaw12_few.l0]
    rw [if_neg (by omega), List.drop_length]
    simp only [fewR, Option.some.injEq, decide_eq_decide]
    omega
  | succ d ih =>
    intro k i s hi hd hk
    obtain ⟨k, rfl⟩ : ∃ m, k = m + 1 := ⟨k - 1, by omega⟩
    obtain ⟨x, hx⟩ : ∃ x, l[i]? = some x := ⟨_, List.getElem?_eq_getElem (show i < l.length by omega)⟩
    obtain ⟨hil, hxe⟩ := List.getElem?_eq_some_iff.1 hx
    have hxf := hf x (List.mem_of_getElem? hx)
    simp only [stillroomlaw12_few.l0]
    rw [if_pos (by omega), List.drop_eq_getElem_cons hil, hxe]
    unfold fewR
    by_cases hs : s < 400
    · have h1 := ih k (i + 1) (s + x.f3.length) (by omega) (by omega) (by omega)
      rw [if_pos (by omega), if_pos (by omega), if_pos hs, rdT hx, w64 (by omega)]
      have e : wrap64 ((s : Int) + (x.f3.length : Int)) = ((s + x.f3.length : Nat) : Int) := by unfold wrap64; omega
      rw [e]
      exact h1
    · rw [if_neg (by omega), if_neg hs]
      simp only [Option.some.injEq, decide_eq_false_iff_not]
      omega
theorem few_ok (w : World) (A : Option Addr) (n c : Nat) (l : List S33) (h : Kd.C k33 w A n l) (hc : n ≤ c) (hl : l.length ≤ 100000000000000) (hf : ∀ x ∈ l, x.f3.length ≤ 100000000000000) :
    Calls Try.prog 8 #[.slice A n c] w fun e w' => e = .returned (.bool (fewR l l.length)) ∧ ∃ m, w' = w.drewN m := by
  obtain rfl : l.length = n := h.1
  have hrun : stillroomlaw12_few.f (l.length + 1) l = some (fewR l l.length) := by
    unfold stillroomlaw12_few.f
    have := few_l0 l hl hf l.length (l.length + 1) 0 l.length (Nat.zero_le _) (by omega) (by omega)
    simpa using this
  refine (stillroomlaw12_few.calls (l.length + 1) A c l _ w h hc hrun).mono ?_
  rintro e w' ⟨rfl, hd⟩
  exact ⟨rfl, hd.out⟩
theorem few_yes : ∀ {l : List S33} {s : Nat}, fewR l s = true → s < 400 ∧ ∀ x ∈ l, x.f3.length < 400
  | [], s, h => ⟨by simpa [fewR] using h, by simp⟩
  | x :: r, s, h => by
    unfold fewR at h
    split at h
    · rename_i hs
      obtain ⟨h1, h2⟩ := few_yes h
      refine ⟨hs, fun y hy => ?_⟩
      rcases List.mem_cons.1 hy with rfl | hy
      · omega
      · exact h2 y hy
    · cases h

theorem same_l0 (a b : List ByteArray) (hlen : a.length = b.length) (ha : a.length ≤ 1000000000) (d : Nat) : ∀ (k i : Nat), i ≤ a.length → a.length - i = d → d < k → ∃ r, stillroomlaw12_same.l0 k a b (i : Int) = some r ∧ (r = true ↔ a.drop i = b.drop i) := by
  induction d with
  | zero =>
    intro k i hi hd hk
    obtain ⟨k, rfl⟩ : ∃ m, k = m + 1 := ⟨k - 1, by omega⟩
    obtain rfl : i = a.length := by omega
    refine ⟨true, ?_, by rw [List.drop_length, hlen, List.drop_length]; simp⟩
    simp only [stillroomlaw12_same.l0]
    rw [if_neg (by omega)]
  | succ d ih =>
    intro k i hi hd hk
    obtain ⟨k, rfl⟩ : ∃ m, k = m + 1 := ⟨k - 1, by omega⟩
    obtain ⟨x, hx⟩ : ∃ x, a[i]? = some x := ⟨_, List.getElem?_eq_getElem (show i < a.length by omega)⟩
    obtain ⟨y, hy⟩ : ∃ y, b[i]? = some y := ⟨_, List.getElem?_eq_getElem (show i < b.length by omega)⟩
    obtain ⟨hil, hxe⟩ := List.getElem?_eq_some_iff.1 hx
    obtain ⟨hib, hye⟩ := List.getElem?_eq_some_iff.1 hy
    simp only [stillroomlaw12_same.l0]
    rw [if_pos (by omega), if_pos (by omega), if_pos (by omega), rdO hx, rdO hy, w64 (by omega), List.drop_eq_getElem_cons hil, List.drop_eq_getElem_cons hib, hxe, hye]
    by_cases e : x = y
    · obtain ⟨r, h1, h2⟩ := ih k (i + 1) (by omega) (by omega) (by omega)
      refine ⟨r, by rw [if_pos (str_eq.2 e)]; exact h1, ?_⟩
      rw [h2, e]
      simp
    · exact ⟨false, by rw [if_neg (fun h => e (str_eq.1 h))], by simp [e]⟩
open Classical in
noncomputable def eqL (a b : List ByteArray) : Bool := decide (a = b)
theorem eqL_iff {a b : List ByteArray} : eqL a b = true ↔ a = b := by classical simp [eqL]
theorem same_ok (w : World) (F G : Nat → Prop) (A B : Option Addr) (n m c d : Nat) (a b : List ByteArray) (ha : Sl w F 1 (.slice A n c) n (strs a)) (hb : Sl w G 1 (.slice B m d) m (strs b)) (hn : n ≤ 1000000000) (hm : m ≤ 1000000000) :
    Calls Try.prog 14 #[.slice A n c, .slice B m d] w fun e w' => e = .returned (.bool (eqL a b)) ∧ ∃ q, w' = w.drewN q := by
  obtain rfl : a.length = n := by have := ha.1; rw [strs_length, Nat.mul_one] at this; exact this
  obtain rfl : b.length = m := by have := hb.1; rw [strs_length, Nat.mul_one] at this; exact this
  have hca : a.length ≤ c := by obtain ⟨_, A', c', hv, hc, _⟩ := ha; simp only [Value.slice.injEq] at hv; omega
  have hcb : b.length ≤ d := by obtain ⟨_, A', c', hv, hc, _⟩ := hb; simp only [Value.slice.injEq] at hv; omega
  have hrun : stillroomlaw12_same.f (a.length + 1) a b = some (eqL a b) := by
    unfold stillroomlaw12_same.f
    by_cases hl : a.length = b.length
    · rw [if_pos (by omega)]
      obtain ⟨r, h1, h2⟩ := same_l0 a b hl hn a.length (a.length + 1) 0 (Nat.zero_le _) (by omega) (by omega)
      have h1 : stillroomlaw12_same.l0 (a.length + 1) a b 0 = some r := h1
      rw [h1]
      congr 1
      rw [Bool.eq_iff_iff, h2, eqL_iff]
      simp
    · rw [if_neg (by omega)]
      congr 1
      cases e : eqL a b with
      | false => rfl
      | true => exact (hl (by rw [eqL_iff.1 e])).elim
  refine (stillroomlaw12_same.calls (a.length + 1) A c a B d b _ w (C_of_sl ha (by omega)) hca (C_of_sl hb (by omega)) hcb hrun).mono ?_
  rintro e w' ⟨rfl, hd⟩
  exact ⟨rfl, hd.out⟩
end Go.Proofs.Ytcffmpjdonncgaa
/- RefdbX: plain laws of what is reached and what is dead. -/
namespace Go.Proofs.Ytcffmpjdonncgaa
open Go.RowKit Go.Proofs.YtcffmpjdonncgaaW.PrintWords
open Go.Proofs.Ytcffmpjdonncgaa.PRef

theorem newErr_zero {l : List S33} (h : newErr l = 0) : (l.map (·.f0)).Nodup ∧ ∀ x ∈ l, ∀ t ∈ x.f3, t ∈ l.map (·.f0) := by
  unfold newErr at h
  split at h
  · cases h
  · split at h
    · cases h
    · rename_i h1
      split at h
      · cases h
      · rename_i h2
        refine ⟨Classical.byContradiction h1, fun x hx t ht => Classical.byContradiction fun h3 => h2 ⟨x, hx, t, ht, h3⟩⟩
theorem newErr_nil : newErr [] = 0 := by
  unfold newErr
  rw [if_neg (by simp), if_neg (by simp), if_neg (by simp)]
theorem C_nil (w : World) : Kd.C k33 w none 0 [] := ⟨rfl, by omega, fun h => absurd h (by omega)⟩
theorem SU_perm {l : List ByteArray} (h : l.Nodup) : (SU l).Perm l := (List.perm_ext_iff_of_nodup (SU_rising l).nodup h).2 (fun _ => SU_mem)
theorem Rch.of {l : List S33} {ps qs : List ByteArray} (h : ∀ p ∈ ps, p ∈ l.map (·.f0) → Rch l qs p) {p : ByteArray} (hr : Rch l ps p) : Rch l qs p := by
  induction hr with
  | root hp hk => exact h _ hp hk
  | step _ hx ht hk ih => exact .step ih hx ht hk
theorem RS_congr {l : List S33} {ps qs : List ByteArray} (h : ∀ p, Rch l ps p ↔ Rch l qs p) : RS l ps = RS l qs := rising_ext (RS_rising _ _) (RS_rising _ _) (fun s => RS_mem.trans ((h s).trans RS_mem.symm))
theorem RS_RS (l : List S33) (ps : List ByteArray) : RS l (RS l ps) = RS l ps := RS_congr fun _ => ⟨Rch.of (fun _ hq _ => RS_mem.1 hq), fun h => .root (RS_mem.2 h) h.key⟩
theorem known_zero {l : List S33} {ps : List ByteArray} (h : ∀ p ∈ ps, p ∈ l.map (·.f0)) : knownErr l ps = 0 := by unfold knownErr; rw [if_pos h]
theorem clo_yes {l : List S33} {ps : List ByteArray} (h : ∀ p ∈ ps, p ∈ l.map (·.f0)) : cloL l ps = RS l ps := by unfold cloL; rw [if_pos h]
theorem RS_keys {l : List S33} {ps : List ByteArray} : ∀ p ∈ RS l ps, p ∈ l.map (·.f0) := fun _ hp => (RS_mem.1 hp).key
noncomputable def thr (l : List S33) (roots : List ByteArray) (i : Nat) : List ByteArray := ((l.take i).map (·.f0)).filter (inB roots)
theorem thr_keys {l : List S33} {roots : List ByteArray} : ∀ p ∈ thr l roots l.length, p ∈ l.map (·.f0) := fun _ hp => by
  have := (List.mem_filter.1 hp).1
  rwa [List.take_length] at this
theorem RS_thr (l : List S33) (roots : List ByteArray) : RS l (thr l roots l.length) = RS l roots := RS_congr fun _ =>
  ⟨Rch.of (fun _ hq hk => .root (inB_iff.1 (List.mem_filter.1 hq).2) hk), Rch.of (fun _ hq hk => .root (List.mem_filter.2 ⟨by rw [List.take_length]; exact hk, inB_iff.2 hq⟩) hk)⟩
theorem thr_le (l : List S33) (roots : List ByteArray) (i : Nat) : (thr l roots i).length ≤ i := by
  unfold thr
  refine Nat.le_trans (List.length_filter_le _ _) ?_
  rw [List.length_map]
  exact List.length_take_le _ _
theorem thr_succ {l : List S33} {roots : List ByteArray} {i : Nat} {x : S33} (h : l[i]? = some x) : thr l roots (i + 1) = if inB roots x.f0 = true then thr l roots i ++ [x.f0] else thr l roots i := by
  obtain ⟨hi, rfl⟩ := List.getElem?_eq_some_iff.1 h
  unfold thr
  rw [List.take_succ_eq_append_getElem hi, List.map_append, List.filter_append]
  by_cases hb : inB roots l[i].f0 = true
  · rw [if_pos hb]; simp [hb]
  · rw [if_neg hb]; simp [hb]
theorem RS_DS_length {l : List S33} (hn : (l.map (·.f0)).Nodup) (ps : List ByteArray) : (RS l ps).length + (DS l ps).length = l.length := by
  have hnd : (RS l ps ++ DS l ps).Nodup := by
    rw [List.nodup_append]
    exact ⟨(RS_rising l ps).nodup, (DS_rising l ps).nodup, fun a ha b hb e => (DS_mem.1 hb).2 (by rw [← e]; exact RS_mem.1 ha)⟩
  have hp : (RS l ps ++ DS l ps).Perm (l.map (·.f0)) := by
    refine (List.perm_ext_iff_of_nodup hnd hn).2 (fun s => ?_)
    rw [List.mem_append, RS_mem, DS_mem]
    exact ⟨fun h => h.elim (fun h => h.key) (fun h => h.1), fun h => (Classical.em (Rch l ps s)).imp id (fun k => ⟨h, k⟩)⟩
  have := hp.length_eq
  rwa [List.length_append, List.length_map] at this
theorem in_live {l : List S33} {ps : List ByteArray} {p : ByteArray} : inB (RS l ps) p = true ↔ Rch l ps p := inB_iff.trans RS_mem
theorem in_dead {l : List S33} {ps : List ByteArray} {x : S33} (hx : x ∈ l) : inB (DS l ps) x.f0 = !inB (RS l ps) x.f0 := by
  rw [Bool.eq_iff_iff, inB_iff, DS_mem, Bool.not_eq_true', ← Bool.not_eq_true, in_live]
  exact ⟨fun h => h.2, fun h => ⟨List.mem_map.2 ⟨x, hx, rfl⟩, h⟩⟩
end Go.Proofs.Ytcffmpjdonncgaa
