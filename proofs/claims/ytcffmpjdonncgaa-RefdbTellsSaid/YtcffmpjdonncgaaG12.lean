/- RefdbX: what the reference computes, in plain: Reach, Closure, Referrers, Dead, Derived. -/
import Derived.Test.YtcffmpjdonncgaaG11
import Derived.Test.YtcffmpjdonncgaaPRefx4
namespace Go.Proofs.Ytcffmpjdonncgaa
open Go.RowKit Go.Proofs.YtcffmpjdonncgaaW.PrintWords
open Go.Proofs.Ytcffmpjdonncgaa.PRef

theorem sorted_f {l : List ByteArray} (h : l.length ≤ 1000000000) (k : Nat) : stillroomref12_sorted.f k l = some (SU l) := if_pos h
/-- where the reference's search stands -/
structure RInv (l : List S33) (ps out : List ByteArray) (i : Nat) : Prop where
  nod : out.Nodup
  got : ∀ p ∈ out, Rch l ps p
  root : ∀ p ∈ ps, p ∈ l.map (·.f0) → p ∈ out
  clos : ∀ x ∈ l, x.f0 ∈ out.take i → ∀ t ∈ x.f3, t ∈ out
theorem keys_len {l : List S33} {ps out : List ByteArray} (hn : out.Nodup) (hg : ∀ p ∈ out, Rch l ps p) : out.length ≤ l.length := by
  have := hn.length_le_of_subset (l₂ := l.map (·.f0)) (fun p hp => (hg p hp).key)
  simpa using this
theorem nodup_snoc {out : List ByteArray} (h : out.Nodup) {p : ByteArray} (hp : p ∉ out) : (out ++ [p]).Nodup := by
  rw [List.nodup_append]
  refine ⟨h, by simp, fun a ha b hb => ?_⟩
  rw [List.mem_singleton] at hb
  subst hb
  rintro rfl
  exact hp ha
theorem reach_l1 {l : List S33} {ps : List ByteArray} (hl : l.length ≤ 4096) (hn : (l.map (·.f0)).Nodup) (hk : ∀ x ∈ l, ∀ t ∈ x.f3, t ∈ l.map (·.f0)) (hf : ∀ x ∈ l, x.f3.length ≤ 1000000) : ∀ (d i : Nat) (out : List ByteArray), i + d = l.length → i ≤ out.length → RInv l ps out i → Ev (fun k => stillroomref12_Reach.l1 k l out (i : Int)) (RS l ps) := by
  intro d
  have fin : ∀ out, RInv l ps out out.length → Ev (fun k => stillroomref12_Reach.l1 k l out (out.length : Int)) (RS l ps) := by
    intro out h
    have hol := keys_len h.nod h.got
    have e : SU out = RS l ps := rising_ext (SU_rising _) (RS_rising _ _) fun s => by
      rw [SU_mem, RS_mem]
      refine ⟨h.got s, fun hr => ?_⟩
      induction hr with
      | root hp hk => exact h.root _ hp hk
      | step _ hx ht _ ih => exact h.clos _ hx (by rw [List.take_length]; exact ih) _ ht
    refine (Ev.const (RS l ps)).step fun k => ?_
    simp only [stillroomref12_Reach.l1]
    rw [if_neg (by omega), sorted_f (by omega), e]
    rfl
  induction d with
  | zero =>
    intro i out hi hio h
    have hol := keys_len h.nod h.got
    obtain rfl : i = out.length := by omega
    exact fin out h
  | succ d ih =>
    intro i out hi hio h
    have hol := keys_len h.nod h.got
    by_cases hlt : i < out.length
    · obtain ⟨p, hp⟩ : ∃ p, out[i]? = some p := ⟨_, List.getElem?_eq_getElem hlt⟩
      obtain ⟨n, x, hx, hxp, hev⟩ := find_in (by omega) ((h.got p (List.mem_of_getElem? hp)).key)
      have hxl := List.mem_of_getElem? hx
      have hnl := (List.getElem?_eq_some_iff.1 hx).1
      have hxf := hf x hxl
      have inner : ∀ d2 q out', q + d2 = x.f3.length → RInv l ps out' i → out'[i]? = some p → (∀ t ∈ x.f3.take q, t ∈ out') → Ev (fun k => stillroomref12_Reach.l2 k l out' (i : Int) (q : Int) x.f0 x.f1 x.f2 x.f3) (RS l ps) := by
        intro d2
        induction d2 with
        | zero =>
          intro q out' hq h' hp' hall
          obtain rfl : q = x.f3.length := by omega
          rw [List.take_length] at hall
          obtain ⟨hil, hge⟩ := List.getElem?_eq_some_iff.1 hp'
          refine (ih (i + 1) out' (by omega) (by omega) ⟨h'.nod, h'.got, h'.root, fun y hy hyt t ht => ?_⟩).step fun k => ?_
          · rw [List.take_succ_eq_append_getElem hil, hge] at hyt
            rcases List.mem_append.1 hyt with hyt | hyt
            · exact h'.clos y hy hyt t ht
            · rw [List.mem_singleton] at hyt
              have : y = x := map_inj_nodup (·.f0) hn y hy x hxl (hyt.trans hxp.symm)
              subst this
              exact hall t ht
          · simp only [stillroomref12_Reach.l2]
            rw [if_neg (by omega), w64 (by omega)]
        | succ d2 ih2 =>
          intro q out' hq h' hp' hall
          obtain ⟨t, ht⟩ : ∃ t, x.f3[q]? = some t := ⟨_, List.getElem?_eq_getElem (show q < x.f3.length by omega)⟩
          obtain ⟨hql, hqe⟩ := List.getElem?_eq_some_iff.1 ht
          have htm := List.mem_of_getElem? ht
          have hol' := keys_len h'.nod h'.got
          have htk : x.f3.take (q + 1) = x.f3.take q ++ [t] := by rw [List.take_succ_eq_append_getElem hql, hqe]
          refine ((has_ev (l := out') (by omega) t).bind (F := fun t136 k => if t136 = true then (stillroomref12_Reach.l2 k l out' (i : Int) (wrap64 ((q : Int) + 1)) x.f0 x.f1 x.f2 x.f3) else (if out'.length < 8796093022208 then (stillroomref12_Reach.l2 k l (out' ++ [t]) (i : Int) (wrap64 ((q : Int) + 1)) x.f0 x.f1 x.f2 x.f3) else none)) (r := RS l ps) ?_).step fun k => ?_
          · rw [w64 (by omega)]
            by_cases hin : t ∈ out'
            · refine (ih2 (q + 1) out' (by omega) h' hp' (fun u hu => ?_)).congr fun k => if_pos (inB_iff.2 hin)
              rw [htk] at hu
              rcases List.mem_append.1 hu with hu | hu
              · exact hall u hu
              · rw [List.mem_singleton] at hu; rw [hu]; exact hin
            · have hrt : Rch l ps t := .step (by rw [hxp]; exact h'.got p (List.mem_of_getElem? hp')) hxl htm (hk x hxl t htm)
              have hil := (List.getElem?_eq_some_iff.1 hp').1
              refine (ih2 (q + 1) (out' ++ [t]) (by omega) ⟨nodup_snoc h'.nod hin, fun u hu => ?_, fun u hu hku => List.mem_append_left _ (h'.root u hu hku), fun y hy hyt u hu => ?_⟩ (by rw [List.getElem?_append_left hil]; exact hp') (fun u hu => ?_)).congr fun k => by
                show (if inB out' t = true then _ else _) = _
                rw [inB_no hin, if_neg (by decide), if_pos (by omega)]
              · rcases List.mem_append.1 hu with hu | hu
                · exact h'.got u hu
                · rw [List.mem_singleton] at hu; rw [hu]; exact hrt
              · rw [List.take_append_of_le_length (by omega)] at hyt
                exact List.mem_append_left _ (h'.clos y hy hyt u hu)
              · rw [htk] at hu
                rcases List.mem_append.1 hu with hu | hu
                · exact List.mem_append_left _ (hall u hu)
                · exact List.mem_append_right _ hu
          · simp only [stillroomref12_Reach.l2]
            rw [if_pos (by omega), if_pos (by omega), rdO ht]
      refine (hev.bind (F := fun t132 k => if 0 ≤ t132 then (if t132 < (l.length : Int) then (stillroomref12_Reach.l2 k l out (i : Int) 0 ((rd_T33 l t132).f0) ((rd_T33 l t132).f1) ((rd_T33 l t132).f2) ((rd_T33 l t132).f3)) else (none)) else (none)) (r := RS l ps) ?_).step fun k => ?_
      · refine (inner x.f3.length 0 out (by omega) h hp (by simp)).congr fun k => ?_
        show (if _ then _ else _) = _
        rw [if_pos (by omega), if_pos (by omega), rdT hx]
        rfl
      · simp only [stillroomref12_Reach.l1]
        rw [if_pos (by omega), if_pos (by omega), rdO hp]
    · obtain rfl : i = out.length := by omega
      exact fin out h
theorem reach_ev {l : List S33} {ps : List ByteArray} (hl : l.length ≤ 4096) (hn : (l.map (·.f0)).Nodup) (hk : ∀ x ∈ l, ∀ t ∈ x.f3, t ∈ l.map (·.f0)) (hf : ∀ x ∈ l, x.f3.length ≤ 1000000) (hp : ps.length ≤ 1000000) : Ev (fun k => stillroomref12_Reach.f k l ps) (RS l ps) := by
  have key : ∀ d i out, i + d = ps.length → out.Nodup → (∀ p ∈ out, Rch l ps p) → (∀ p ∈ ps.take i, p ∈ l.map (·.f0) → p ∈ out) → Ev (fun k => stillroomref12_Reach.l0 k l ps out (i : Int)) (RS l ps) := by
    intro d
    induction d with
    | zero =>
      intro i out hi hno hg hr
      obtain rfl : i = ps.length := by omega
      rw [List.take_length] at hr
      refine (reach_l1 hl hn hk hf l.length 0 out (by omega) (Nat.zero_le _) ⟨hno, hg, hr, by simp⟩).step fun k => ?_
      simp only [stillroomref12_Reach.l0]
      rw [if_neg (by omega)]
      rfl
    | succ d ih =>
      intro i out hi hno hg hr
      obtain ⟨p, hpi⟩ : ∃ p, ps[i]? = some p := ⟨_, List.getElem?_eq_getElem (show i < ps.length by omega)⟩
      obtain ⟨hil, hge⟩ := List.getElem?_eq_some_iff.1 hpi
      have htk : ps.take (i + 1) = ps.take i ++ [p] := by rw [List.take_succ_eq_append_getElem hil, hge]
      have hol := keys_len hno hg
      by_cases hin : p ∈ l.map (·.f0)
      · obtain ⟨n, x, _, _, hev⟩ := find_in (by omega) hin
        refine (hev.bind (F := fun t121 k => if t121 ≥ 0 then ((stillroomref12_has.f k out p).bind fun t123 => (if t123 = true then (stillroomref12_Reach.l0 k l ps out (wrap64 ((i : Int) + 1))) else (if out.length < 8796093022208 then (stillroomref12_Reach.l0 k l ps (out ++ [p]) (wrap64 ((i : Int) + 1))) else (none)))) else (stillroomref12_Reach.l0 k l ps out (wrap64 ((i : Int) + 1)))) (r := RS l ps) ?_).step fun k => ?_
        · rw [w64 (by omega)]
          refine Ev.congr (g := fun k => (stillroomref12_has.f k out p).bind fun t123 => (if t123 = true then (stillroomref12_Reach.l0 k l ps out ((i + 1 : Nat) : Int)) else (if out.length < 8796093022208 then (stillroomref12_Reach.l0 k l ps (out ++ [p]) ((i + 1 : Nat) : Int)) else (none)))) ?_ fun k => if_pos (by omega)
          refine (has_ev (l := out) (by omega) p).bind (F := fun t123 k => (if t123 = true then (stillroomref12_Reach.l0 k l ps out ((i + 1 : Nat) : Int)) else (if out.length < 8796093022208 then (stillroomref12_Reach.l0 k l ps (out ++ [p]) ((i + 1 : Nat) : Int)) else (none)))) ?_
          by_cases ho : p ∈ out
          · refine (ih (i + 1) out (by omega) hno hg (fun u hu hku => ?_)).congr fun k => if_pos (inB_iff.2 ho)
            rw [htk] at hu
            rcases List.mem_append.1 hu with hu | hu
            · exact hr u hu hku
            · rw [List.mem_singleton] at hu; rw [hu]; exact ho
          · refine (ih (i + 1) (out ++ [p]) (by omega) (nodup_snoc hno ho) (fun u hu => ?_) (fun u hu hku => ?_)).congr fun k => by
              show (if inB out p = true then _ else _) = _
              rw [inB_no ho, if_neg (by decide), if_pos (by omega)]
            · rcases List.mem_append.1 hu with hu | hu
              · exact hg u hu
              · rw [List.mem_singleton] at hu; rw [hu]; exact .root (List.mem_of_getElem? hpi) hin
            · rw [htk] at hu
              rcases List.mem_append.1 hu with hu | hu
              · exact List.mem_append_left _ (hr u hu hku)
              · exact List.mem_append_right _ hu
        · simp only [stillroomref12_Reach.l0]
          rw [if_pos (by omega), if_pos (by omega), rdO hpi]
      · refine ((find_no (by omega) hin).bind (F := fun t121 k => if t121 ≥ 0 then ((stillroomref12_has.f k out p).bind fun t123 => (if t123 = true then (stillroomref12_Reach.l0 k l ps out (wrap64 ((i : Int) + 1))) else (if out.length < 8796093022208 then (stillroomref12_Reach.l0 k l ps (out ++ [p]) (wrap64 ((i : Int) + 1))) else (none)))) else (stillroomref12_Reach.l0 k l ps out (wrap64 ((i : Int) + 1)))) (r := RS l ps) ?_).step fun k => ?_
        · rw [w64 (by omega)]
          refine (ih (i + 1) out (by omega) hno hg (fun u hu hku => ?_)).congr fun k => if_neg (by decide)
          rw [htk] at hu
          rcases List.mem_append.1 hu with hu | hu
          · exact hr u hu hku
          · rw [List.mem_singleton] at hu; rw [hu] at hku; exact (hin hku).elim
        · simp only [stillroomref12_Reach.l0]
          rw [if_pos (by omega), if_pos (by omega), rdO hpi]
  exact key ps.length 0 [] (by omega) List.nodup_nil (by simp) (by simp)
end Go.Proofs.Ytcffmpjdonncgaa
/- RefdbX: what the reference computes, in plain: Closure, Referrers, Dead, Derived. -/
namespace Go.Proofs.Ytcffmpjdonncgaa
open Go.RowKit Go.Proofs.YtcffmpjdonncgaaW.PrintWords
open Go.Proofs.Ytcffmpjdonncgaa.PRef

theorem clo_no {l : List S33} {ps : List ByteArray} (h : ¬ ∀ p ∈ ps, p ∈ l.map (·.f0)) : cloL l ps = [] := by unfold cloL; rw [if_neg h]
theorem known_no {l : List S33} {ps : List ByteArray} (h : ¬ ∀ p ∈ ps, p ∈ l.map (·.f0)) : knownErr l ps = 14 := by unfold knownErr; rw [if_neg h]
theorem closure_ev {l : List S33} {ps : List ByteArray} (hl : l.length ≤ 4096) (hn : (l.map (·.f0)).Nodup) (hk : ∀ x ∈ l, ∀ t ∈ x.f3, t ∈ l.map (·.f0)) (hf : ∀ x ∈ l, x.f3.length ≤ 1000000) (hp : ps.length ≤ 1000000) : Ev (fun k => stillroomref12_Closure.f k l ps) (cloL l ps, knownErr l ps) := by
  have key : ∀ d i, i + d = ps.length → (∀ p ∈ ps.take i, p ∈ l.map (·.f0)) → Ev (fun k => stillroomref12_Closure.l0 k l ps (i : Int)) (cloL l ps, knownErr l ps) := by
    intro d
    induction d with
    | zero =>
      intro i hi hall
      obtain rfl : i = ps.length := by omega
      rw [List.take_length] at hall
      rw [clo_yes hall, known_zero hall]
      refine ((reach_ev hl hn hk hf hp).bind (F := fun t143 _ => some (t143, (0 : Int))) (Ev.const _)).step fun k => ?_
      simp only [stillroomref12_Closure.l0]
      rw [if_neg (by omega)]
    | succ d ih =>
      intro i hi hall
      obtain ⟨p, hpi⟩ : ∃ p, ps[i]? = some p := ⟨_, List.getElem?_eq_getElem (show i < ps.length by omega)⟩
      obtain ⟨hil, hge⟩ := List.getElem?_eq_some_iff.1 hpi
      by_cases hin : p ∈ l.map (·.f0)
      · obtain ⟨n, x, _, _, hev⟩ := find_in (by omega) hin
        refine (hev.bind (F := fun t142 k => if t142 < 0 then (some (([] : List ByteArray), (14 : Int))) else (stillroomref12_Closure.l0 k l ps (wrap64 ((i : Int) + 1)))) (r := (cloL l ps, knownErr l ps)) ?_).step fun k => ?_
        · rw [w64 (by omega)]
          refine (ih (i + 1) (by omega) (fun u hu => ?_)).congr fun k => if_neg (by omega)
          rw [List.take_succ_eq_append_getElem hil, hge] at hu
          rcases List.mem_append.1 hu with hu | hu
          · exact hall u hu
          · rw [List.mem_singleton] at hu; rw [hu]; exact hin
        · simp only [stillroomref12_Closure.l0]
          rw [if_pos (by omega), if_pos (by omega), rdO hpi]
      · have hno : ¬ ∀ p ∈ ps, p ∈ l.map (·.f0) := fun h => hin (h p (List.mem_of_getElem? hpi))
        rw [clo_no hno, known_no hno]
        refine ((find_no (by omega) hin).bind (F := fun t142 k => if t142 < 0 then (some (([] : List ByteArray), (14 : Int))) else (stillroomref12_Closure.l0 k l ps (wrap64 ((i : Int) + 1)))) (r := (([] : List ByteArray), (14 : Int))) ⟨0, fun k _ => if_pos (by decide)⟩).step fun k => ?_
        simp only [stillroomref12_Closure.l0]
        rw [if_pos (by omega), if_pos (by omega), rdO hpi]
  exact key ps.length 0 (by omega) (by simp)
/-- the paths of the first infos that something holds of -/
def pick (P : S33 → Bool) (l : List S33) (i : Nat) : List ByteArray := ((l.take i).filter P).map (·.f0)
theorem pick_succ {P : S33 → Bool} {l : List S33} {i : Nat} {x : S33} (h : l[i]? = some x) : pick P l (i + 1) = if P x = true then pick P l i ++ [x.f0] else pick P l i := by
  obtain ⟨hi, rfl⟩ := List.getElem?_eq_some_iff.1 h
  unfold pick
  rw [List.take_succ_eq_append_getElem hi, List.filter_append, List.map_append]
  by_cases hb : P l[i] = true
  · rw [if_pos hb]; simp [hb]
  · rw [if_neg hb]; simp [hb]
theorem pick_le (P : S33 → Bool) (l : List S33) (i : Nat) : (pick P l i).length ≤ i := by
  unfold pick
  rw [List.length_map]
  exact Nat.le_trans (List.length_filter_le _ _) (List.length_take_le _ _)
theorem SU_pick {P : S33 → Bool} {l : List S33} {m : List ByteArray} (hm : Rising m) (h : ∀ s, s ∈ m ↔ ∃ x ∈ l, x.f0 = s ∧ P x = true) : SU (pick P l l.length) = m := by
  refine SU_of hm fun s => ?_
  rw [h]
  unfold pick
  rw [List.take_length, List.mem_map]
  constructor
  · rintro ⟨x, h1, h2, h3⟩; exact ⟨x, by rw [List.mem_filter]; exact ⟨h1, h3⟩, h2⟩
  · rintro ⟨x, h1, h2⟩; rw [List.mem_filter] at h1; exact ⟨x, h1.1, h2, h1.2⟩
theorem referrers_ev {l : List S33} {p : ByteArray} (hl : l.length ≤ 4096) (hf : ∀ x ∈ l, x.f3.length ≤ 1000000) : Ev (fun k => stillroomref12_Referrers.f k l p) (refR l p, knownErr l [p]) := by
  by_cases hin : p ∈ l.map (·.f0)
  · have hall : ∀ q ∈ [p], q ∈ l.map (·.f0) := fun q hq => by rw [List.mem_singleton] at hq; rw [hq]; exact hin
    have e : refR l p = refL l p := by unfold refR; rw [if_pos hall]
    rw [e, known_zero hall]
    obtain ⟨n, x, _, _, hev⟩ := find_in (by omega) hin
    have loop : Ev (fun k => stillroomref12_Referrers.l0 k l p ([] : List ByteArray) 0) (refL l p, 0) := by
      refine Ev.loop (fun k i => stillroomref12_Referrers.l0 k l p (pick (fun x => inB x.f3 p) l i) (i : Int)) l.length (fun i hi hn => ?_) ?_
      · obtain ⟨x, hx⟩ : ∃ x, l[i]? = some x := ⟨_, List.getElem?_eq_getElem hi⟩
        have hxf := hf x (List.mem_of_getElem? hx)
        have hpl := pick_le (fun x => inB x.f3 p) l i
        rw [pick_succ hx] at hn
        refine ((has_ev (l := x.f3) (by omega) p).bind (F := fun t148 k => (if t148 = true then (if (pick (fun x => inB x.f3 p) l i).length < 8796093022208 then (stillroomref12_Referrers.l0 k l p (pick (fun x => inB x.f3 p) l i ++ [x.f0]) (wrap64 ((i : Int) + 1))) else (none)) else (stillroomref12_Referrers.l0 k l p (pick (fun x => inB x.f3 p) l i) (wrap64 ((i : Int) + 1))))) (r := (refL l p, (0 : Int))) ?_).step fun k => ?_
        · rw [w64 (by omega)]
          cases hb : inB x.f3 p with
          | true =>
            simp only [hb, if_true] at hn
            exact hn.congr fun k => by rw [if_pos rfl, if_pos (by omega)]
          | false =>
            simp only [hb, Bool.false_eq_true, if_false] at hn
            exact hn.congr fun k => if_neg (by decide)
        · simp only [stillroomref12_Referrers.l0]
          rw [if_pos (by omega), if_pos (by omega), rdT hx]
      · have hpl := pick_le (fun x => inB x.f3 p) l l.length
        refine (Ev.const (refL l p, (0 : Int))).step fun k => ?_
        simp only [stillroomref12_Referrers.l0]
        rw [if_neg (by omega), sorted_f (by omega), SU_pick (m := refL l p) (SU_rising _) (fun s => by rw [refL_mem]; simp only [inB_iff])]
        rfl
    refine (hev.bind (F := fun t146 k => (if t146 < 0 then (some (([] : List ByteArray), (14 : Int))) else (stillroomref12_Referrers.l0 k l p ([] : List ByteArray) 0))) (r := (refL l p, (0 : Int))) ?_).congr fun k => rfl
    exact loop.congr fun k => if_neg (by omega)
  · have hall : ¬ ∀ q ∈ [p], q ∈ l.map (·.f0) := fun h => hin (h p (by simp))
    have e : refR l p = [] := by unfold refR; rw [if_neg hall]
    rw [e, known_no hall]
    exact ((find_no (by omega) hin).bind (F := fun t146 k => (if t146 < 0 then (some (([] : List ByteArray), (14 : Int))) else (stillroomref12_Referrers.l0 k l p ([] : List ByteArray) 0))) (r := (([] : List ByteArray), (14 : Int))) ⟨0, fun k _ => if_pos (by decide)⟩).congr fun k => rfl
theorem dead_ev {l : List S33} {ps : List ByteArray} (hl : l.length ≤ 4096) (hn : (l.map (·.f0)).Nodup) (hk : ∀ x ∈ l, ∀ t ∈ x.f3, t ∈ l.map (·.f0)) (hf : ∀ x ∈ l, x.f3.length ≤ 1000000) (hp : ps.length ≤ 1000000) : Ev (fun k => stillroomref12_Dead.f k l ps) (DS l ps) := by
  have hlive : (RS l ps).length ≤ 4096 := Nat.le_trans (keys_len (RS_rising l ps).nodup (fun p hp => RS_mem.1 hp)) hl
  refine ((reach_ev hl hn hk hf hp).bind (F := fun t156 k => (stillroomref12_Dead.l0 k l t156 ([] : List ByteArray) 0)) (r := DS l ps) ?_).congr fun k => rfl
  refine Ev.loop (fun k i => stillroomref12_Dead.l0 k l (RS l ps) (pick (fun x => !inB (RS l ps) x.f0) l i) (i : Int)) l.length (fun i hi hn => ?_) ?_
  · obtain ⟨x, hx⟩ : ∃ x, l[i]? = some x := ⟨_, List.getElem?_eq_getElem hi⟩
    have hpl := pick_le (fun x => !inB (RS l ps) x.f0) l i
    rw [pick_succ hx] at hn
    refine ((has_ev (l := RS l ps) (by omega) x.f0).bind (F := fun t160 k => (if t160 = true then (stillroomref12_Dead.l0 k l (RS l ps) (pick (fun x => !inB (RS l ps) x.f0) l i) (wrap64 ((i : Int) + 1))) else (if (pick (fun x => !inB (RS l ps) x.f0) l i).length < 8796093022208 then (stillroomref12_Dead.l0 k l (RS l ps) (pick (fun x => !inB (RS l ps) x.f0) l i ++ [x.f0]) (wrap64 ((i : Int) + 1))) else (none)))) (r := DS l ps) ?_).step fun k => ?_
    · rw [w64 (by omega)]
      cases hb : inB (RS l ps) x.f0 with
      | true =>
        simp only [hb, Bool.not_true, Bool.false_eq_true, if_false] at hn
        exact hn.congr fun k => if_pos rfl
      | false =>
        simp only [hb, Bool.not_false, if_true] at hn
        exact hn.congr fun k => by rw [if_neg (by decide), if_pos (by omega)]
    · simp only [stillroomref12_Dead.l0]
      rw [if_pos (by omega), if_pos (by omega), rdT hx]
  · have hpl := pick_le (fun x => !inB (RS l ps) x.f0) l l.length
    refine (Ev.const (DS l ps)).step fun k => ?_
    simp only [stillroomref12_Dead.l0]
    rw [if_neg (by omega), sorted_f (by omega), SU_pick (m := DS l ps) (DS_rising _ _) (fun s => by
      rw [DS_mem, List.mem_map]
      constructor
      · rintro ⟨⟨x, h1, h2⟩, h3⟩
        exact ⟨x, h1, h2, by rw [inB_no (fun h => h3 (by rw [← h2]; exact RS_mem.1 h))]; rfl⟩
      · rintro ⟨x, h1, h2, h3⟩
        refine ⟨⟨x, h1, h2⟩, fun h => ?_⟩
        rw [← h2] at h
        rw [in_live.2 h] at h3
        cases h3)]
    rfl
theorem derived_ev {l : List S33} {d : ByteArray} (hl : l.length ≤ 4096) : Ev (fun k => stillroomref12_Derived.f k l d) (derL l d) := by
  classical
  refine Ev.loop (fun k i => stillroomref12_Derived.l0 k l d (pick (fun x => decide (x.f2 = d)) l i) (i : Int)) l.length (fun i hi hn => ?_) ?_
  · obtain ⟨x, hx⟩ : ∃ x, l[i]? = some x := ⟨_, List.getElem?_eq_getElem hi⟩
    have hpl := pick_le (fun x => decide (x.f2 = d)) l i
    rw [pick_succ hx] at hn
    refine hn.step fun k => ?_
    simp only [stillroomref12_Derived.l0]
    rw [if_pos (by omega), if_pos (by omega), rdT hx, w64 (by omega)]
    by_cases e : x.f2 = d
    · rw [if_pos (str_eq.2 e), if_pos (by omega), if_pos (decide_eq_true e)]
    · rw [if_neg (fun h => e (str_eq.1 h)), if_neg (by rw [decide_eq_false e]; decide)]
  · have hpl := pick_le (fun x => decide (x.f2 = d)) l l.length
    refine (Ev.const (derL l d)).step fun k => ?_
    simp only [stillroomref12_Derived.l0]
    rw [if_neg (by omega), sorted_f (by omega), SU_pick (m := derL l d) (SU_rising _) (fun s => by
      unfold derL
      rw [SU_mem, List.mem_map]
      simp only [List.mem_filter, decide_eq_true_eq]
      constructor
      · rintro ⟨x, ⟨h1, h2⟩, h3⟩; exact ⟨x, h1, h3, h2⟩
      · rintro ⟨x, h1, h2, h3⟩; exact ⟨x, ⟨h1, h3⟩, h2⟩)]
    rfl
end Go.Proofs.Ytcffmpjdonncgaa
/- RefdbX: the least path that is ready, in plain (for the reference's Order, whose printed text does not build). -/
namespace Go.Proofs.Ytcffmpjdonncgaa
open Go.RowKit Go.Proofs.YtcffmpjdonncgaaW.PrintWords
open Go.Proofs.Ytcffmpjdonncgaa.PRef

def rdy (out : List ByteArray) (x : S33) : Prop := ∀ t ∈ x.f3, t ≠ x.f0 → t ∈ out
open Classical in
/-- the least path that is ready -/
noncomputable def lr (out : List ByteArray) : List S33 → Option ByteArray → Option ByteArray
  | [], b => b
  | x :: r, b => lr out r (if x.f0 ∉ out ∧ (∀ y, b = some y → ltB x.f0 y) ∧ rdy out x then some x.f0 else b)
theorem lr_spec (out : List ByteArray) : ∀ (l : List S33) (b : Option ByteArray),
    (∀ z, lr out l b = some z → ((∃ x ∈ l, x.f0 = z ∧ x.f0 ∉ out ∧ rdy out x) ∨ b = some z) ∧ (∀ x ∈ l, x.f0 ∉ out → rdy out x → ¬ ltB x.f0 z) ∧ ∀ y, b = some y → ¬ ltB y z) ∧ (lr out l b = none → b = none ∧ ∀ x ∈ l, x.f0 ∉ out → ¬ rdy out x)
  | [], b => ⟨fun z hz => ⟨.inr hz, by simp, fun y hy => by
      have hz : b = some z := hz
      rw [hz] at hy; injection hy with hy; subst hy; exact ltB_irrefl _⟩, fun h => ⟨h, by simp⟩⟩
  | x :: r, b => by
    unfold lr
    by_cases h : x.f0 ∉ out ∧ (∀ y, b = some y → ltB x.f0 y) ∧ rdy out x
    · rw [if_pos h]
      obtain ⟨h1, h2⟩ := lr_spec out r (some x.f0)
      refine ⟨fun z hz => ?_, fun hz => ?_⟩
      · obtain ⟨k2, k3, k4⟩ := h1 z hz
        refine ⟨.inl ?_, fun s hs ho hr hsz => ?_, fun y hy hyz => ?_⟩
        · rcases k2 with ⟨y, hy, e⟩ | e
          · exact ⟨y, List.mem_cons_of_mem _ hy, e⟩
          · injection e with e; exact ⟨x, List.mem_cons_self, e, h.1, h.2.2⟩
        · rcases List.mem_cons.1 hs with rfl | hs
          · exact k4 _ rfl hsz
          · exact k3 s hs ho hr hsz
        · exact k4 x.f0 rfl (ltB_trans (h.2.1 y hy) hyz)
      · exact absurd (h2 hz).1 (by simp)
    · rw [if_neg h]
      obtain ⟨h1, h2⟩ := lr_spec out r b
      refine ⟨fun z hz => ?_, fun hz => ?_⟩
      · obtain ⟨k2, k3, k4⟩ := h1 z hz
        refine ⟨k2.imp (fun ⟨y, hy, e⟩ => ⟨y, List.mem_cons_of_mem _ hy, e⟩) id, fun s hs ho hr hsz => ?_, k4⟩
        rcases List.mem_cons.1 hs with rfl | hs
        · refine h ⟨ho, fun y hy => ?_, hr⟩
          rcases ltB_tri s.f0 y with h | h | h
          · exact h
          · rw [← h] at hy; exact (k4 s.f0 hy hsz).elim
          · exact (k4 y hy (ltB_trans h hsz)).elim
        · exact k3 s hs ho hr hsz
      · obtain ⟨k1, k2⟩ := h2 hz
        refine ⟨k1, fun s hs ho hr => ?_⟩
        rcases List.mem_cons.1 hs with rfl | hs
        · exact h ⟨ho, fun y hy => (by rw [k1] at hy; cases hy), hr⟩
        · exact k2 s hs ho hr
theorem lr_head (l : List S33) (out : List ByteArray) : lr out l none = (readyL l out).head? := by
  obtain ⟨h1, h2⟩ := lr_spec out l none
  have hr := readyL_rising l out
  cases hz : lr out l none with
  | none =>
    have := (h2 hz).2
    cases hl : readyL l out with
    | nil => rfl
    | cons p rest =>
      obtain ⟨x, hx, e, ho, hc⟩ := readyL_mem.1 (show p ∈ readyL l out by rw [hl]; exact List.mem_cons_self)
      subst e
      exact (this x hx ho hc).elim
  | some z =>
    obtain ⟨k1, k2, _⟩ := h1 z hz
    obtain ⟨x, hx, e, ho, hc⟩ := k1.elim id (fun h => by cases h)
    subst e
    have hm : x.f0 ∈ readyL l out := readyL_mem.2 ⟨x, hx, rfl, ho, hc⟩
    cases hl : readyL l out with
    | nil => rw [hl] at hm; cases hm
    | cons p rest =>
      rw [hl] at hm hr
      obtain ⟨y, hy, e, hyo, hyc⟩ := readyL_mem.1 (show p ∈ readyL l out by rw [hl]; exact List.mem_cons_self)
      subst e
      rcases List.mem_cons.1 hm with e | hm
      · rw [e]; rfl
      · exact (k2 y hy hyo hyc ((List.pairwise_cons.1 hr).1 _ hm)).elim
end Go.Proofs.Ytcffmpjdonncgaa
/- RefdbX: contracts of the reference's Closure, Referrers, Dead and Derived, in the words of this claim. -/
namespace Go.Proofs.Ytcffmpjdonncgaa
open Go.RowKit Go.Proofs.YtcffmpjdonncgaaW.PrintWords
open Go.Proofs.Ytcffmpjdonncgaa.PRef

theorem made_of_R {w w' : World} {v : Value} {r : List ByteArray} (h : Kd.R Kd.string 9 w' w.heap.size (fun _ => True) v r) (hb : Below w.heap.size w w') : Made w r v w' := by
  have ho := own_of_Rs h
  obtain ⟨A, c, rfl, _, _⟩ := own_form ho
  exact ⟨A, c, rfl, own_lower ho (Nat.zero_le _), fun b hv => own_base ho hv, hb⟩
theorem sl_cap {w : World} {F : Nat → Prop} {A : Option Addr} {n c : Nat} {xs : List Value} (h : Sl w F 1 (.slice A n c) n xs) : n ≤ c := by
  obtain ⟨_, A', c', hv, hc, _⟩ := h
  simp only [Value.slice.injEq] at hv
  omega
theorem sl_len {w : World} {F : Nat → Prop} {v : Value} {n : Nat} {ps : List ByteArray} (h : Sl w F 1 v n (strs ps)) : ps.length = n := by
  have := h.1
  rwa [strs_length, Nat.mul_one] at this
section
variable (w : World) (A : Option Addr) (n c : Nat) (l : List S33) (h : Kd.C k33 w A n l) (hc : n ≤ c) (hn : n ≤ 4096) (hf : ∀ x ∈ l, x.f3.length ≤ 1000000)
include h hc hn hf
theorem rclosure_ok (hnd : (l.map (·.f0)).Nodup) (hk : ∀ x ∈ l, ∀ t ∈ x.f3, t ∈ l.map (·.f0)) (F : Nat → Prop) (B : Option Addr) (m d : Nat) (ps : List ByteArray) (hB : Sl w F 1 (.slice B m d) m (strs ps)) (hm : m ≤ 1000000) :
    Calls Try.prog 21 #[.slice A n c, .slice B m d] w fun e w' => ∃ v, e = .returned (.tuple #[v, .int .i64 (knownErr l ps)]) ∧ Made w (cloL l ps) v w' := by
  obtain rfl : l.length = n := h.1
  obtain rfl := sl_len hB
  obtain ⟨k, hk⟩ := (closure_ev hn hnd hk hf hm).at
  refine (stillroomref12_Closure.calls k A c l B d ps _ _ w h hc (C_of_sl hB (by omega)) (sl_cap hB) hk).mono ?_
  rintro e w' ⟨v, rfl, hR, hb⟩
  exact ⟨v, rfl, made_of_R hR hb⟩
theorem rdead_ok (hnd : (l.map (·.f0)).Nodup) (hk : ∀ x ∈ l, ∀ t ∈ x.f3, t ∈ l.map (·.f0)) (F : Nat → Prop) (B : Option Addr) (m d : Nat) (ps : List ByteArray) (hB : Sl w F 1 (.slice B m d) m (strs ps)) (hm : m ≤ 1000000) :
    Calls Try.prog 24 #[.slice A n c, .slice B m d] w fun e w' => ∃ v, e = .returned v ∧ Made w (DS l ps) v w' := by
  obtain rfl : l.length = n := h.1
  obtain rfl := sl_len hB
  obtain ⟨k, hk⟩ := (dead_ev hn hnd hk hf hm).at
  refine (stillroomref12_Dead.calls k A c l B d ps _ w h hc (C_of_sl hB (by omega)) (sl_cap hB) hk).mono ?_
  rintro e w' ⟨v, rfl, hR, hb⟩
  exact ⟨v, rfl, made_of_R hR hb⟩
theorem rreferrers_ok (p : ByteArray) :
    Calls Try.prog 22 #[.slice A n c, .string p] w fun e w' => ∃ v, e = .returned (.tuple #[v, .int .i64 (knownErr l [p])]) ∧ Made w (refR l p) v w' := by
  obtain rfl : l.length = n := h.1
  obtain ⟨k, hk⟩ := (referrers_ev (p := p) hn hf).at
  refine (stillroomref12_Referrers.calls k A c l p _ _ w h hc hk).mono ?_
  rintro e w' ⟨v, rfl, hR, hb⟩
  exact ⟨v, rfl, made_of_R hR hb⟩
omit hf in
theorem rderived_ok (p : ByteArray) :
    Calls Try.prog 25 #[.slice A n c, .string p] w fun e w' => ∃ v, e = .returned v ∧ Made w (derL l p) v w' := by
  obtain rfl : l.length = n := h.1
  obtain ⟨k, hk⟩ := (derived_ev (d := p) hn).at
  refine (stillroomref12_Derived.calls k A c l p _ w h hc hk).mono ?_
  rintro e w' ⟨v, rfl, hR, hb⟩
  exact ⟨v, rfl, made_of_R hR hb⟩
end
/-- two lists that are alike -/
theorem same_yes (w w1 w2 w3 w4 : World) (r : List ByteArray) (u v : Value) (h1 : Made w1 r u w2) (h2 : Made w3 r v w4) (hb2 : Below w2.heap.size w2 w) (hb4 : Below w4.heap.size w4 w) (hr : r.length ≤ 1000000) :
    Calls Try.prog 14 #[u, v] w fun e w' => e = .returned (.bool true) ∧ Below w.heap.size w w' := by
  obtain ⟨A, c, rfl, o1, _⟩ := h1
  obtain ⟨B, d, rfl, o2, _⟩ := h2
  refine (same_ok w _ _ A B r.length r.length c d r r (Sl.of_own (own_below o1 hb2)) (Sl.of_own (own_below o2 hb4)) (by omega) (by omega)).mono ?_
  rintro e w' ⟨rfl, q, rfl⟩
  exact ⟨by rw [eqL_iff.2 rfl], pw_below_drewN (Below.refl _ _) q⟩
end Go.Proofs.Ytcffmpjdonncgaa
