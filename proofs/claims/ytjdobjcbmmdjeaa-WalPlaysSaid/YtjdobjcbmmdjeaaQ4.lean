/- Contracts of stillroomref04: Get, Put. -/
import Derived.Test.YtjdobjcbmmdjeaaQ3
namespace Go.Proofs.Ytjdobjcbmmdjeaa
open Go.RowKit

abbrev z104 : Value := .agg #[.int .i64 0, .string ⟨#[]⟩]
theorem info104 : (Try.prog.info? 104).map (fun i => (i.zero, i.size, i.bytes)) = some (some z104, 2, 24) := by kernel_rfl
theorem EV_one (l : List (Int × List UInt8)) : ∀ u ∈ EV l, u.oneCell' = true := by
  intro u hu
  simp only [EV, List.mem_flatMap] at hu
  obtain ⟨x, _, hx⟩ := hu
  simp only [List.mem_cons, List.not_mem_nil, or_false] at hx
  rcases hx with rfl | rfl <;> rfl
theorem EV_cons (x : Int × List UInt8) (l : List (Int × List UInt8)) : EV (x :: l) = .int .i64 x.1 :: bstr x.2 :: EV l := rfl
theorem EV_take (l : List (Int × List UInt8)) : ∀ i, (EV l).take (i * 2) = EV (l.take i) := by
  induction l with
  | nil => intro i; simp [EV]
  | cons x l ih =>
    intro i
    cases i with
    | zero => simp [EV]
    | succ i => rw [EV_cons, Nat.succ_mul, List.take_succ_cons, List.take_succ_cons, ih, List.take_succ_cons, EV_cons]
theorem EV_drop (l : List (Int × List UInt8)) : ∀ i, (EV l).drop (i * 2) = EV (l.drop i) := by
  induction l with
  | nil => intro i; simp [EV]
  | cons x l ih =>
    intro i
    cases i with
    | zero => simp
    | succ i => rw [EV_cons, Nat.succ_mul, List.drop_succ_cons, List.drop_succ_cons, ih, List.drop_succ_cons]
theorem EV_set (b : List UInt8) : ∀ (l : List (Int × List UInt8)) (i : Nat) (x : Int × List UInt8), l[i]? = some x → EV (l.set i (x.1, b)) = (EV l).set (i * 2 + 1) (bstr b)
  | [], i, x, h => by simp at h
  | a :: l, 0, x, h => by
    simp at h; subst h
    rfl
  | a :: l, i + 1, x, h => by
    simp at h
    rw [List.set_cons_succ, EV_cons, EV_set b l i x h, EV_cons, show (i + 1) * 2 + 1 = i * 2 + 1 + 1 + 1 by omega, List.set_cons_succ, List.set_cons_succ]
theorem Sl.tail {w : World} {e : TypeId} {A : Option Addr} {n c i : Nat} {l : List (Int × List UInt8)} (h : w.ownsRow 0 e 2 (.slice A n c) n (EV l)) (hi : i ≤ n) :
    Sl w (fun b => b < w.heap.size) 2 (.slice (if c = i then A else A.map (·.add (i * 2))) (n - i) (c - i)) (n - i) (EV (l.drop i)) := by
  obtain ⟨_, _, hv, hcap, _⟩ := own_form h
  simp only [Value.slice.injEq] at hv
  have hcap : n ≤ c := by rw [hv.2.2]; exact hcap
  have hl : l.length = n := by have := h.1; rw [EV_length] at this; omega
  refine ⟨by rw [EV_length, List.length_drop, hl], _, _, rfl, by omega, fun hn => ?_⟩
  obtain ⟨b, cap, hv2, _, hb⟩ := h.form (by omega)
  simp only [Value.slice.injEq] at hv2
  obtain ⟨rfl, _, rfl⟩ := hv2
  rw [if_neg (by omega)]
  refine ⟨_, rfl, by rw [block_add]; exact hb, fun j u hu => ?_⟩
  rw [add_add', add_lit0]
  rw [← EV_drop, List.getElem?_drop] at hu
  have := h.cells rfl (i * 2 + j) u hu
  rwa [add_lit0] at this
theorem cut_from' {P : Program} (t e : TypeId) (kl : IntKind) (ht : P.underlying t = some (.slice e)) {z : Value} {size bytes : Nat} (hi : (P.info? e).map (fun i => (i.zero, i.size, i.bytes)) = some (some z, size, bytes)) (A : Option Addr) (n c j : Nat) (hm : j ≤ n) :
    ∀ W : World, (Instr.slice t (.slice A n c) (some (.int kl (j : Int))) none none).run P W = .ok (.slice (if c = j then A else A.map (·.add (j * size))) (n - j) (c - j)) W := by
  intro W
  obtain ⟨i, h1, _, h3, _⟩ := info_parts hi
  have hel : P.elem t = e := by simp [Program.elem, ht]
  have hu : P.underlying t = some (.slice (P.elem t)) := by rw [hel]; exact ht
  rw [run_slice_l W t A n c hu kl j (by omega) (by omega), hel]
  simp [sizeOf, typeInfo, h1, h3, sliced, Result.andThen]

def qshows (l : List (Int × List UInt8)) (S : Dsk) (k : Nat) (z : Int) : List UInt8 × Int := match mget l z with | some b => (b, 0) | none => shown S k z
theorem mget_at {l : List (Int × List UInt8)} {z : Int} : ∀ {i : Nat} {x : Int × List UInt8}, l[i]? = some x → x.1 = z → (∀ (j : Nat) (y : Int × List UInt8), j < i → l[j]? = some y → y.1 ≠ z) → mget l z = some x.2 := by
  induction l with
  | nil => intro i x h; simp at h
  | cons a l ih =>
    intro i x h hz hn
    cases i with
    | zero => simp at h; subst h; simp [mget, hz]
    | succ i =>
      have h0 := hn 0 a (by omega) rfl
      simp only [mget]
      rw [if_neg (fun e => h0 e.symm)]
      exact ih (by simpa using h) hz (fun j y hj hy => hn (j + 1) y (by omega) (by simpa using hy))
theorem mget_no {l : List (Int × List UInt8)} {z : Int} (h : ∀ (j : Nat) (y : Int × List UInt8), l[j]? = some y → y.1 ≠ z) : mget l z = none := by
  rw [mget_none]
  intro hm
  obtain ⟨y, hy, e⟩ := List.mem_map.1 hm
  obtain ⟨j, hj⟩ := List.getElem?_of_mem hy
  exact h j y hj e

set_option maxRecDepth 100000 in
set_option maxHeartbeats 1000000 in
theorem rget_ok (w : World) (F G : Nat → Prop) (q r k : Nat) (z : Int) (Q : QJr) (S : Dsk) (R : RDsk) (hQ : QAt w F q r Q) (hr : RefAt w G r R) (hg : RG S R k) (hev : R.ev.length ≤ 100000000) (hl : Q.l.length ≤ 1000000) :
    Calls Try.prog 56 #[.pointer (some ⟨q, 0, none⟩), .int .i64 z] w fun e w' => e = .returned (.tuple #[bstr (qshows Q.l S k z).1, .int .i64 (qshows Q.l S k z).2]) ∧ w = w' := by
  obtain ⟨A, c, c0, c1, c2, c3, ho, hq⟩ := hQ.cell
  have HO := Lib.hid ho
  have HRD := Lib.hid (rread_all w G r k z S R hr (by omega) hg.rel hg.good)
  clear ho c1 c2 hQ hr hg
  go_enter Try.func56, Try.ntmps56
  go_wp2_with fail
  go_loopg [6] Q.l.length (fun kq iv wr => ∃ i : Nat, iv = .int .i64 i ∧ i ≤ Q.l.length ∧ kq = Q.l.length - i ∧ wr = w ∧ Hid (∀ j y, j < i → Q.l[j]? = some y → y.1 ≠ z))
  case atStart => exact ⟨0, rfl, Nat.zero_le _, rfl, rfl, Lib.hid (fun j y hj => by omega)⟩
  case round =>
    obtain ⟨i, rfl, hi, rfl, rfl, hno⟩ := hrel
    by_cases hin : i < Q.l.length
    · obtain ⟨x, hx⟩ : ∃ x, Q.l[i]? = some x := ⟨_, List.getElem?_eq_getElem hin⟩
      obtain ⟨b, cap, hv, _, hbl⟩ := HO.out.form (by omega)
      simp only [Value.slice.injEq] at hv
      obtain ⟨rfl, _, rfl⟩ := hv
      obtain ⟨e0, e1⟩ := EV_get hx
      have q0 := HO.out.cells rfl _ _ e0
      have q1 := HO.out.cells rfl _ _ e1
      rw [add_lit0, Nat.zero_add] at q0 q1
      have HX := Lib.hid hx
      unfold bstr at q1
      clear e0 e1 hx
      by_cases hz : x.1 = z
      · have hzb : (x.1 == z) = true := by simp [hz]
        have HQS : Hid (qshows Q.l S k z = (x.2, 0)) := Lib.hid (by unfold qshows; rw [mget_at HX.out hz hno.out])
        clear hz
        go_wp2_with fail
        go_ret2
        exact ⟨by rw [HQS.out]; rfl, rfl⟩
      · have hzb : (x.1 == z) = false := by simp [hz]
        have HN : Hid (∀ j y, j < i + 1 → Q.l[j]? = some y → y.1 ≠ z) := Lib.hid fun j y hj hy => by
          by_cases e : j = i
          · subst e; rw [HX.out] at hy; injection hy with hy; rw [← hy]; exact hz
          · exact hno.out j y (by omega) hy
        clear hz hno
        go_wp2_with fail
        go_roundg (Q.l.length - (i + 1))
        case measure => omega
        case rel => exact ⟨i + 1, by go_num, by omega, rfl, rfl, HN⟩
    · obtain rfl : i = Q.l.length := by omega
      have HQS : Hid (qshows Q.l S k z = shown S k z) := Lib.hid (by
        unfold qshows
        rw [mget_no (fun j y hy => hno.out j y (List.getElem?_eq_some_iff.1 hy).1 hy)])
      clear hno
      go_wp2_with fail
      refine HRD.out.mono ?_
      rintro e w' ⟨rfl, rfl⟩
      go_wp2_with fail
      go_ret2
      exact ⟨by rw [HQS.out]; rfl, rfl⟩

/-! ### Put -/
def qErr (Q : QJr) (k : Nat) (z : Int) : Int := if ¬ (0 ≤ z ∧ z < (k : Int) ∧ ¬ ((Q.at_ : Int) ≤ z ∧ z < (Q.at_ : Int) + Q.sec)) then 2 else if (mget Q.l z).isNone && decide (Q.sec - 1 ≤ Q.l.length) then 3 else 0
def qPut (Q : QJr) (k : Nat) (z : Int) (bs : List UInt8) : QJr := if qErr Q k z = 0 then ⟨Q.at_, Q.sec, qins Q.l z bs⟩ else Q
theorem QAt.setB {w : World} {F : Nat → Prop} {q r : Nat} {Q : QJr} (h : QAt w F q r Q) {g c i : Nat} {x : Int × List UInt8} (h3 : w.cell? ⟨q, 3, none⟩ = some (.slice (some ⟨g, 0, none⟩) Q.l.length c)) (hx : Q.l[i]? = some x) (b : List UInt8) :
    QAt (w.setCell ⟨g, i * 2 + 1, none⟩ (bstr b)) F q r ⟨Q.at_, Q.sec, Q.l.set i (x.1, b)⟩ ∧ Mod F w (w.setCell ⟨g, i * 2 + 1, none⟩ (bstr b)) := by
  obtain ⟨A, c', h1, h2, h4, h5, h6⟩ := h
  have e : (Value.slice A Q.l.length c') = .slice (some ⟨g, 0, none⟩) Q.l.length c := by
    have := h2.cell 3
    rw [h3] at this
    simpa using this.symm
  simp only [Value.slice.injEq, true_and] at e
  obtain ⟨rfl, rfl⟩ := e
  have hne : q ≠ g := by
    rintro rfl
    exact own_blk_ne h4 h2 (by decide) rfl
  have hm : Mod F w (w.setCell ⟨g, i * 2 + 1, none⟩ (bstr b)) := (Mod.refl _ _).setCell (p := ⟨g, _, none⟩) (fun _ => h5 g rfl) _
  refine ⟨⟨some ⟨g, 0, none⟩, c', h1, ?_, ?_, ?_, fun b hb => by rw [World.size_setCell]; exact h6 b hb⟩, hm⟩
  · show Blk _ q 81 [_, _, _, .slice (some ⟨g, 0, none⟩) (Q.l.set i (x.1, b)).length c']
    rw [List.length_set]
    exact h2.far hne _
  · show World.ownsRow _ 0 104 2 (.slice (some ⟨g, 0, none⟩) (Q.l.set i (x.1, b)).length c') (Q.l.set i (x.1, b)).length (EV (Q.l.set i (x.1, b)))
    rw [List.length_set, EV_set b Q.l i x hx]
    exact (h4.stored (i * 2 + 1) (bstr b)).1
  · show ∀ b', (Value.slice (some ⟨g, 0, none⟩) (Q.l.set i (x.1, b)).length c').ownBlock = some b' → F b'
    exact h5
theorem QAt.mono {w : World} {F G : Nat → Prop} {q r : Nat} {Q : QJr} (h : QAt w F q r Q) (hF : ∀ b, F b → G b) (hG : ∀ b, G b → b < w.heap.size) : QAt w G q r Q := by
  obtain ⟨A, c, h1, h2, h3, h4, _⟩ := h
  exact ⟨A, c, hF _ h1, h2, h3, fun b hb => hF b (h4 b hb), hG⟩
/-- another list -/
theorem QAt.setL {w : World} {F : Nat → Prop} {q r : Nat} {Q : QJr} {A' : Option Addr} {c' : Nat} {L : List (Int × List UInt8)} (h : QAt w F q r Q) (ho : w.ownsRow 0 104 2 (.slice A' L.length c') L.length (EV L)) :
    QAt (w.setCell ⟨q, 3, none⟩ (.slice A' L.length c')) (fun b => F b ∨ (Value.slice A' L.length c').ownBlock = some b) q r ⟨Q.at_, Q.sec, L⟩ ∧ Mod F w (w.setCell ⟨q, 3, none⟩ (.slice A' L.length c')) := by
  obtain ⟨A, c, h1, h2, h4, h5, h6⟩ := h
  have hne : (Value.slice A' L.length c').ownBlock ≠ some q := own_blk_ne ho h2 (by decide)
  refine ⟨⟨A', c', .inl h1, h2.set_ 3 _, own_setCell ho (p := ⟨q, 3, none⟩) hne _, fun b hb => .inr hb, fun b hb => ?_⟩, (Mod.refl _ _).setCell (p := ⟨q, 3, none⟩) (fun _ => h1) _⟩
  rw [World.size_setCell]
  rcases hb with hb | hb
  · exact h6 b hb
  · exact own_lt' ho hb

theorem rise_le {l : List (Int × List UInt8)} (h : (l.map (·.1)).Pairwise (· < ·)) {i j : Nat} {x y : Int × List UInt8} (hij : i ≤ j) (hx : l[i]? = some x) (hy : l[j]? = some y) : x.1 ≤ y.1 := by
  by_cases e : i = j
  · subst e; rw [hx] at hy; injection hy with hy; rw [hy]; omega
  · have h1 := List.pairwise_iff_getElem.1 h
    obtain ⟨hi, rfl⟩ := List.getElem?_eq_some_iff.1 hx
    obtain ⟨hj, rfl⟩ := List.getElem?_eq_some_iff.1 hy
    have := h1 i j (by simpa using hi) (by simpa using hj) (by omega)
    simp only [List.getElem_map] at this
    omega

set_option maxRecDepth 100000 in
set_option maxHeartbeats 8000000 in
theorem rput_ok (w : World) (F G H : Nat → Prop) (q r k : Nat) (z : Int) (Q : QJr) (R : RDsk) (Ab : Option Addr) (cb : Nat) (bs : List UInt8) (hQ : QAt w F q r Q) (hr : RefAt w G r R) (hk : R.first.length = k) (hk2 : k ≤ 2048) (ha : Q.at_ ≤ 1000000) (hs1 : 2 ≤ Q.sec) (hs : Q.sec ≤ 31) (hl : Q.l.length ≤ 1000000)
    (hrise : (Q.l.map (·.1)).Pairwise (· < ·)) (hb : Sl w H 1 (.slice Ab 256 cb) 256 (B8 bs)) :
    Calls Try.prog 36 #[.pointer (some ⟨q, 0, none⟩), .int .i64 z, .slice Ab 256 cb] w fun e w' => e = .returned (.int .i64 (qErr Q k z)) ∧ QAt w' (fun b => F b ∨ (w.heap.size ≤ b ∧ b < w'.heap.size)) q r (qPut Q k z bs) ∧ Mod F w w' := by
  obtain ⟨Aq, cq, c0, c1, c2, c3, ho, hqlt⟩ := hQ.cell
  obtain ⟨Af, cf, _, _, e0, _, _, _, hrlt⟩ := hr.cell
  rw [hk] at e0
  have HKEEP : Hid (∀ w', Below w.heap.size w w' → QAt w' (fun b => F b ∨ (w.heap.size ≤ b ∧ b < w'.heap.size)) q r Q ∧ Mod F w w') := Lib.hid fun w' hb' => by
    obtain ⟨A, c, h1, h2, h3, h4, h5⟩ := hQ.below hb'
    exact ⟨⟨A, c, .inl h1, h2, h3, fun b hb => .inl (h4 b hb), fun b hb => hb.elim (fun hb => h5 b hb) (fun hb => hb.2)⟩, Mod.of_below hb'⟩
  have HOWN := Lib.hid (rown_ok w q Q.at_ Q.sec z c1 c2 ha (by omega))
  have HQ := Lib.hid hQ
  have HOW := Lib.hid ho
  have HRI := Lib.hid hrise
  have HSB := Lib.hid hb
  obtain ⟨s, hse⟩ : ∃ s, s = Q.sec - 1 := ⟨_, rfl⟩
  have hsi : (Q.sec : Int) - 1 = (s : Int) := by omega
  have ews : IntKind.i64.wrap (s : Int) = (s : Int) := by rw [IntKind.wrap_i64]; omega
  have HSE := Lib.hid hse
  have HQF : Hid (∀ wx, Below w.heap.size w wx → wx.frozen? ⟨q, 3, none⟩ = false) := Lib.hid fun wx hx => by
    obtain ⟨A, c, h1, h2, _⟩ := hQ.below hx
    exact h2.frozen 3
  have HCC : Hid (∀ wx, Below w.heap.size w wx → wx.cell? ⟨q, 2, none⟩ = some (.int .i64 (Q.sec : Int)) ∧ wx.cell? ⟨q, 3, none⟩ = some (.slice Aq Q.l.length cq) ∧ q < wx.heap.size) := Lib.hid fun wx hx =>
    ⟨(hx.cell (p := ⟨q, 2, none⟩) hqlt).trans c2, (hx.cell (p := ⟨q, 3, none⟩) hqlt).trans c3, by have := hx.size; omega⟩
  clear hQ hr hk hs1 hs hrise hb hse
  by_cases hz : 0 ≤ z ∧ z < (k : Int)
  · obtain ⟨hz0, hzk⟩ := hz
    have hz0' : ¬ z < 0 := by omega
    have hzk' : ¬ (k : Int) ≤ z := by omega
    by_cases hown : (Q.at_ : Int) ≤ z ∧ z < (Q.at_ : Int) + Q.sec
    · rw [decide_eq_true hown] at HOWN
      have HE : Hid (qErr Q k z = 2 ∧ qPut Q k z bs = Q) := Lib.hid (by
        have e : qErr Q k z = 2 := by unfold qErr; rw [if_pos (fun h => h.2.2 hown)]
        exact ⟨e, by unfold qPut; rw [e, if_neg (by decide)]⟩)
      clear hown
      go_enter Try.func36, Try.ntmps36
      go_wp2_with fail
      refine HOWN.out.mono ?_
      rintro e w1 ⟨rfl, hb1⟩
      have HB1 := Lib.hid hb1
      clear hb1
      go_wp2_with fail
      go_ret
      rw [HE.out.1, HE.out.2]
      exact ⟨rfl, HKEEP.out _ HB1.out⟩
    · rw [decide_eq_false hown] at HOWN
      have hok : ¬ ¬ (0 ≤ z ∧ z < (k : Int) ∧ ¬ ((Q.at_ : Int) ≤ z ∧ z < (Q.at_ : Int) + Q.sec)) := fun h => h ⟨hz0, hzk, hown⟩
      have HQE : Hid (qErr Q k z = if (mget Q.l z).isNone && decide (Q.sec - 1 ≤ Q.l.length) then 3 else 0) := Lib.hid (by unfold qErr; rw [if_neg hok])
      clear hown hok
      go_enter Try.func36, Try.ntmps36
      go_wp2_with fail
      refine HOWN.out.mono ?_
      rintro e w1 ⟨rfl, hb1⟩
      have HB1 := Lib.hid hb1
      have c3 : w1.cell? ⟨q, 3, none⟩ = some (.slice Aq Q.l.length cq) := (hb1.cell (p := ⟨q, 3, none⟩) hqlt).trans c3
      clear hb1 c0 c1 c2 e0
      go_wp2_with fail
      go_loopg [7] Q.l.length (fun kq iv wr => ∃ i : Nat, iv = .int .i64 i ∧ i ≤ Q.l.length ∧ kq = Q.l.length - i ∧ Hid (∀ j y, j < i → Q.l[j]? = some y → y.1 < z) ∧ Hid (Below w.heap.size w wr))
      case atStart => exact ⟨0, rfl, Nat.zero_le _, rfl, Lib.hid (fun j y hj => by omega), HB1⟩
      case round =>
        clear HB1 c3
        obtain ⟨i, rfl, hi, rfl, hno, hb⟩ := hrel
        obtain ⟨d2, d3, hqr⟩ := HCC.out wr hb.out
        by_cases hin : i < Q.l.length
        · obtain ⟨x, hx⟩ : ∃ x, Q.l[i]? = some x := ⟨_, List.getElem?_eq_getElem hin⟩
          obtain ⟨g, cap, hv, _, hgl⟩ := HOW.out.form (by omega)
          simp only [Value.slice.injEq] at hv
          obtain ⟨rfl, _, rfl⟩ := hv
          obtain ⟨v0, v1⟩ := EV_get hx
          have q0 := (own_below HOW.out hb.out).cells rfl _ _ v0
          have q1 := (own_below HOW.out hb.out).cells rfl _ _ v1
          rw [add_lit0, Nat.zero_add] at q0 q1
          have hglr : g < wr.heap.size := by have := hb.out.size; omega
          have HX := Lib.hid hx
          have hii : (i : Int) < (Q.l.length : Int) := by omega
          have HQ1 := Lib.hid q1
          clear v0 v1 hx q1
          by_cases hlt : x.1 < z
          · have HN : Hid (∀ j y, j < i + 1 → Q.l[j]? = some y → y.1 < z) := Lib.hid fun j y hj hy => by
              by_cases e : j = i
              · subst e; rw [HX.out] at hy; injection hy with hy; rw [← hy]; exact hlt
              · exact hno.out j y (by omega) hy
            clear hno d2
            go_wp2_with fail
            go_roundg (Q.l.length - (i + 1))
            case measure => omega
            case rel => exact ⟨i + 1, by go_num, by omega, rfl, HN, hb⟩
          · by_cases heq : x.1 = z
            · have HMG : Hid (mget Q.l z = some x.2) := Lib.hid (mget_at HX.out heq (fun j y hj hy e => by have := hno.out j y hj hy; omega))
              have HERR : Hid (qErr Q k z = 0) := Lib.hid (by rw [HQE.out, HMG.out]; rfl)
              have HPUT : Hid (qPut Q k z bs = ⟨Q.at_, Q.sec, Q.l.set i (x.1, bs)⟩) := Lib.hid (by
                unfold qPut
                rw [HERR.out, if_pos rfl, qins_at z bs Q.l i hi (fun j y hj hy => hno.out j y hj hy) (fun y hy => by rw [HX.out] at hy; injection hy with hy; rw [← hy]; omega), HX.out, if_pos (by rw [← heq]; rfl), heq])
              have heqb : (x.1 == z) = true := by simp [heq]
              have hlt' : ¬ x.1 < z := hlt
              have HFZ : Hid (wr.frozen? ⟨g, i * 2 + 1, none⟩ = false) := Lib.hid ((own_below HOW.out hb.out).frozenAt _)
              clear heq hno HQE
              go_wp2_with fail
              obtain ⟨wd, hwd⟩ : ∃ wd, wd = wr.drew := ⟨_, rfl⟩
              have hcv := run_str wd _ 22 5 9 Ab 256 cb bs Try.underlying22 Try.underlying5 Try.underlying9 (HSB.out.below (by omega) (by rw [hwd]; exact hb.out.drew))
              unfold bstr at hcv
              have HCD : Hid (wd.cell? ⟨q, 3, none⟩ = some (.slice (some ⟨g, 0, none⟩) Q.l.length cq) ∧ (convert 22 9 (.slice Ab 256 cb)).run Try.prog wd = .ok (.string ⟨bs.toArray⟩) wd ∧ q < wd.heap.size ∧ g < wd.heap.size ∧ wd.frozen? ⟨g, i * 2 + 1, none⟩ = false ∧ wd.cell? ⟨g, i * 2 + 1, none⟩ = some (bstr x.2)) := Lib.hid (by rw [hwd] at hcv ⊢; exact ⟨d3, hcv, hqr, hglr, HFZ.out, HQ1.out⟩)
              have HBD : Hid (Below w.heap.size w wd) := Lib.hid (by rw [hwd]; exact hb.out.drew)
              clear hcv q0 d2 d3
              go_upto_region 7 with fail
              try simp only [Act.put, List.setIfInBounds_toArray, List.set_cons_zero, List.set_cons_succ]
              obtain ⟨Inv, hInv⟩ : ∃ Inv : Done → World → Prop, Inv = Chain1 9 (fun wI => wI = wd) (fun x wI => wI = wd.setCell ⟨g, i * 2 + 1, none⟩ (bstr bs)) := ⟨_, rfl⟩
              have HI := Lib.hid hInv
              have hcz : Hid (∀ τ wI, Inv τ wI → τ 9 = none → wI = wd) := by
                intro τ wI h h9
                rw [hInv] at h
                exact h.upto0 h9
              have H00 : Hid (Inv Done.none wr.drew) := by rw [hInv]; exact Chain1.start hwd.symm
              clear hInv hwd
              refine wp_region_inv (by kernel_rfl) [⟨0, false, [], [9]⟩, ⟨1, false, [], [9]⟩, ⟨2, false, [], [9]⟩, ⟨3, false, [], [9]⟩, ⟨4, false, [], [9]⟩, ⟨5, false, [], [9]⟩, ⟨6, false, [], [9]⟩, ⟨7, false, [], [9]⟩, ⟨8, false, [], [9]⟩, ⟨9, true, [], []⟩] (by kernel_rfl) Inv (fun _ _ => True) (fun _ => ⟨undef, trivial⟩) H00.out ?_
              iterate 9 (apply WpI.pure; (simp only [List.getElem?_toArray, List.getElem?_cons_succ, List.getElem?_cons_zero]; rfl); (intro τ wI hA hI; have f0 := hcz.out τ wI hI (hA.2 9 (by decide)); have e1 := f0; clear f0; subst e1; obtain ⟨x0, x1, x2, x3, x4, x5⟩ := HCD.out; go_simp; exact ⟨hI, Is.rfl'⟩); simp only [Act.put, List.setIfInBounds_toArray, List.set_cons_zero, List.set_cons_succ])
              apply WpI.effect; (simp only [List.getElem?_toArray, List.getElem?_cons_succ, List.getElem?_cons_zero]; rfl)
              · intro τ wI hA hn hI
                have h0 := hI
                rw [HI.out] at h0
                have hK := h0.at0 hn
                have HT := Lib.hid (And.intro True.intro (True.intro))
                clear hA hn hI h0
                subst hK
                obtain ⟨x0, x1, x2, x3, x4, x5⟩ := HCD.out
                go_simp
                rw [HI.out]
                exact Chain1.put1  rfl
              intro v9 hv9
              simp only [Act.put, List.setIfInBounds_toArray, List.set_cons_zero, List.set_cons_succ]
              clear hv9
              refine WpI.done ?_
              intro w3 hI
              rw [HI.out] at hI
              have hE := hI.end_
              obtain rfl : w3 = wd.setCell ⟨g, i * 2 + 1, none⟩ (bstr bs) := hE
              clear hI hcz H00 HI
              go_wp2_with fail
              go_ret
              obtain ⟨k1, k2⟩ := (HQ.out.below HBD.out).setB HCD.out.1 HX.out bs
              rw [HERR.out, HPUT.out]
              have hlt2 := fun b => k1.lt (b := b)
              exact ⟨rfl, k1.mono (fun b hb => .inl hb) (fun b hb => hb.elim (fun hb => hlt2 b hb) (fun hb => hb.2)), (Mod.of_below HBD.out).trans k2 (fun _ _ h => h)⟩
            · have hgt : z < x.1 := by omega
              have HMG : Hid (mget Q.l z = none) := Lib.hid (mget_no (fun j y hy e => by
                by_cases h1 : j < i
                · have := hno.out j y h1 hy; omega
                · have h2 := rise_le HRI.out (by omega : i ≤ j) HX.out hy; omega))
              have HINS : Hid (qins Q.l z bs = Q.l.take i ++ (z, bs) :: Q.l.drop i) := Lib.hid (by
                rw [qins_at z bs Q.l i hi (fun j y hj hy => hno.out j y hj hy) (fun y hy => by rw [HX.out] at hy; injection hy with hy; rw [← hy]; omega), HX.out, if_neg]
                intro e
                exact heq (by simpa using e))
              have heqb : (x.1 == z) = false := by simp [heq]
              have hlt' : ¬ x.1 < z := hlt
              have hci : ¬ cq = i := by
                obtain ⟨_, _, hv, hcap, _⟩ := own_form HOW.out
                simp only [Value.slice.injEq] at hv
                omega
              clear heq hno
              go_wp2_with fail
              clear q0
              have HQL : Hid (s ≤ Q.l.length → qErr Q k z = 3 ∧ qPut Q k z bs = Q) := Lib.hid fun h => by
                have e : qErr Q k z = 3 := by rw [HQE.out, HMG.out, ← HSE.out]; simp [h]
                exact ⟨e, by unfold qPut; rw [e, if_neg (by decide)]⟩
              have HERR' : Hid (¬ s ≤ Q.l.length → qErr Q k z = 0 ∧ qPut Q k z bs = ⟨Q.at_, Q.sec, qins Q.l z bs⟩) := Lib.hid fun h => by
                have e : qErr Q k z = 0 := by rw [HQE.out, HMG.out, ← HSE.out]; simp [h]
                exact ⟨e, by unfold qPut; rw [e, if_pos rfl]⟩
              have HC0 := Lib.hid (And.intro d3 (And.intro d2 hqr))
              clear HQE d2 d3 hqr
              by_cases hle : s ≤ Q.l.length
              · have hle3 : decide (s ≤ Q.l.length) = true := decide_eq_true hle
                have hle4 : decide ((s : Int) ≤ (Q.l.length : Int)) = true := decide_eq_true (by omega)
                obtain ⟨wd, hwd⟩ : ∃ wd, wd = wr.drew := ⟨_, rfl⟩
                have HCD : Hid (wd.cell? ⟨q, 3, none⟩ = some (.slice (some ⟨g, 0, none⟩) Q.l.length cq) ∧ wd.cell? ⟨q, 2, none⟩ = some (.int .i64 (Q.sec : Int)) ∧ q < wd.heap.size) := Lib.hid (by rw [hwd]; exact HC0.out)
                have HBD : Hid (Below w.heap.size w wd) := Lib.hid (by rw [hwd]; exact hb.out.drew)
                go_upto_region 9 with fail
                try simp only [Act.put, List.setIfInBounds_toArray, List.set_cons_zero, List.set_cons_succ]
                obtain ⟨Inv, hInv⟩ : ∃ Inv : Done → World → Prop, Inv = fun _ wI => (fun wI => wI = wd) wI := ⟨_, rfl⟩
                have HI := Lib.hid hInv
                have hcz : Hid (∀ τ wI, Inv τ wI → wI = wd) := by
                  intro τ wI h
                  rw [hInv] at h
                  exact h
                have H00 : Hid (Inv Done.none wr.drew) := by rw [hInv]; exact hwd.symm
                clear hInv hwd
                refine wp_region_inv (by kernel_rfl) [⟨0, false, [], []⟩, ⟨1, false, [], []⟩, ⟨2, false, [], []⟩, ⟨3, false, [], []⟩, ⟨4, false, [], []⟩, ⟨5, false, [], []⟩, ⟨6, false, [], []⟩, ⟨7, false, [], []⟩, ⟨8, false, [], []⟩, ⟨9, false, [], []⟩, ⟨10, false, [], []⟩] (by kernel_rfl) Inv (fun _ _ => True) (fun _ => ⟨undef, trivial⟩) H00.out ?_
                iterate 11 (apply WpI.pure; (simp only [List.getElem?_toArray, List.getElem?_cons_succ, List.getElem?_cons_zero]; rfl); (intro τ wI hA hI; have f0 := hcz.out τ wI hI; have e1 := f0; clear f0; subst e1; obtain ⟨x0, x1, x2⟩ := HCD.out; go_simp; exact ⟨hI, Is.rfl'⟩); simp only [Act.put, List.setIfInBounds_toArray, List.set_cons_zero, List.set_cons_succ])
                refine WpI.done ?_
                intro w3 hI
                rw [HI.out] at hI
                have hE := hI
                obtain rfl : w3 = wd := hE
                clear hI hcz H00 HI hb
                have HQLL := Lib.hid (HQL.out hle)
                go_wp2_with fail
                go_ret
                rw [HQLL.out.1, HQLL.out.2]
                exact ⟨rfl, HKEEP.out _ HBD.out⟩
              · have hle3 : decide (s ≤ Q.l.length) = false := decide_eq_false hle
                have hle4 : decide ((s : Int) ≤ (Q.l.length : Int)) = false := decide_eq_false (by omega)
                have HERR := Lib.hid (HERR'.out hle).1
                have HPUT := Lib.hid (HERR'.out hle).2
                obtain ⟨wd, hwd⟩ : ∃ wd, wd = wr.drew := ⟨_, rfl⟩
                have HCD : Hid (wd.cell? ⟨q, 3, none⟩ = some (.slice (some ⟨g, 0, none⟩) Q.l.length cq) ∧ wd.cell? ⟨q, 2, none⟩ = some (.int .i64 (Q.sec : Int)) ∧ q < wd.heap.size) := Lib.hid (by rw [hwd]; exact HC0.out)
                have HBD : Hid (Below w.heap.size w wd) := Lib.hid (by rw [hwd]; exact hb.out.drew)
                go_upto_region 9 with fail
                try simp only [Act.put, List.setIfInBounds_toArray, List.set_cons_zero, List.set_cons_succ]
                obtain ⟨Inv, hInv⟩ : ∃ Inv : Done → World → Prop, Inv = fun _ wI => (fun wI => wI = wd) wI := ⟨_, rfl⟩
                have HI := Lib.hid hInv
                have hcz : Hid (∀ τ wI, Inv τ wI → wI = wd) := by
                  intro τ wI h
                  rw [hInv] at h
                  exact h
                have H00 : Hid (Inv Done.none wr.drew) := by rw [hInv]; exact hwd.symm
                clear hInv hwd
                refine wp_region_inv (by kernel_rfl) [⟨0, false, [], []⟩, ⟨1, false, [], []⟩, ⟨2, false, [], []⟩, ⟨3, false, [], []⟩, ⟨4, false, [], []⟩, ⟨5, false, [], []⟩, ⟨6, false, [], []⟩, ⟨7, false, [], []⟩, ⟨8, false, [], []⟩, ⟨9, false, [], []⟩, ⟨10, false, [], []⟩] (by kernel_rfl) Inv (fun _ _ => True) (fun _ => ⟨undef, trivial⟩) H00.out ?_
                iterate 11 (apply WpI.pure; (simp only [List.getElem?_toArray, List.getElem?_cons_succ, List.getElem?_cons_zero]; rfl); (intro τ wI hA hI; have f0 := hcz.out τ wI hI; have e1 := f0; clear f0; subst e1; obtain ⟨x0, x1, x2⟩ := HCD.out; go_simp; exact ⟨hI, Is.rfl'⟩); simp only [Act.put, List.setIfInBounds_toArray, List.set_cons_zero, List.set_cons_succ])
                refine WpI.done ?_
                intro w3 hI
                rw [HI.out] at hI
                have hE := hI
                obtain rfl : w3 = wd := hE
                clear hI hcz H00 HI hb
                obtain ⟨x0, x1, x2⟩ := HCD.out
                have HFW := Lib.hid (own_below HOW.out HBD.out)
                have hicq : i ≤ cq := by
                  obtain ⟨_, _, hv, hcap, _⟩ := own_form HOW.out
                  simp only [Value.slice.injEq] at hv
                  have := hv.2.2
                  omega
                have HNIL : Hid (∀ wx : World, (wx.alloc (.cells #[] 104)).ownsRow 0 104 2 (.slice (some ⟨wx.heap.size, 0, none⟩) 0 0) 0 []) := Lib.hid fun wx => own_of_blk (cs := []) (Blk.new wx 104 #[]) 2 0 rfl (by simp [maxLen])
                have htk := Sl.of_own (own_take (HFW.out.alloc (.cells #[] 104)) (n' := i) (by omega))
                rw [EV_take] at htk
                have HTK := Lib.hid htk
                clear htk
                have y0 : (w3.alloc (.cells #[] 104)).cell? ⟨q, 3, none⟩ = some (.slice (some ⟨g, 0, none⟩) Q.l.length cq) := (((Below.refl w3.heap.size w3).alloc (Nat.le_refl _) (.cells #[] 104)).cell (p := ⟨q, 3, none⟩) x2).trans x0
                obtain ⟨A4, c4, w4, hap, o4, g4, a4, _⟩ := run_app (P := Try.prog) (w3.alloc (.cells #[] 104)) 79 79 104 z104 2 24 Try.underlying79 info104 rfl (by omega) (by omega) (.slice (some ⟨w3.heap.size, 0, none⟩) 0 0) 0 [] (HNIL.out w3) _ (.slice (some ⟨g, 0, none⟩) i cq) i (EV (Q.l.take i)) HTK.out (EV_one _) (by omega)
                simp only [Nat.zero_add, List.nil_append] at o4 g4 a4 hap
                have HB4 : Hid (Below w3.heap.size w3 w4) := Lib.hid (((Below.refl _ _).alloc (Nat.le_refl _) _).grown g4 (by simp) (by simp [Value.ownBlock]))
                have HO4 := Lib.hid (And.intro o4 (show ∀ b, (Value.slice A4 i c4).ownBlock = some b → w3.heap.size ≤ b by
                  intro b hb
                  rcases a4 with e | e <;> rw [e] at hb <;> simp [Value.ownBlock] at hb <;> omega))
                have hcv := run_str w4 _ 22 5 9 Ab 256 cb bs Try.underlying22 Try.underlying5 Try.underlying9 (HSB.out.below (by omega) ((HBD.out.trans (HB4.out.mono HBD.out.size))))
                obtain ⟨A5, c5, w5, hap2, o5, g5, a5, _⟩ := run_app (P := Try.prog) (w4.alloc (.cells #[.int .i64 z, bstr bs] 104)) 79 79 104 z104 2 24 Try.underlying79 info104 rfl (by omega) (by omega) (.slice A4 i c4) i (EV (Q.l.take i)) (HO4.out.1.alloc _) _ (.slice (some ⟨w4.heap.size, 0, none⟩) 1 1) 1 (EV [(z, bs)]) (Sl.of_blk (Blk.new w4 104 #[.int .i64 z, bstr bs]) 2 1 1 rfl (by omega)) (EV_one _) (by omega)
                have HB5 : Hid (Below w3.heap.size w3 w5) := Lib.hid (HB4.out.trans ((((Below.refl w3.heap.size w4).alloc HB4.out.size _)).grown g5 (by have := HB4.out.size; simp; omega) (fun k hk => HO4.out.2 k hk)))
                have HO5 := Lib.hid (And.intro o5 (show ∀ b, (Value.slice A5 (i + 1) c5).ownBlock = some b → w3.heap.size ≤ b by
                  intro b hb
                  rcases a5 with e | e
                  · rw [e] at hb; exact HO4.out.2 b hb
                  · rw [e] at hb; injection hb with hb; have := HB4.out.size; simp at hb; omega))
                have x5 : w5.cell? ⟨q, 3, none⟩ = some (.slice (some ⟨g, 0, none⟩) Q.l.length cq) := (HB5.out.cell (p := ⟨q, 3, none⟩) x2).trans x0
                have hcut := cut_from' 79 104 .i64 Try.underlying79 info104 (some ⟨g, 0, none⟩) Q.l.length cq i (by omega)
                obtain ⟨AD, hAD⟩ : ∃ AD, AD = (if cq = i then (some ⟨g, 0, none⟩ : Option Addr) else (some ⟨g, 0, none⟩ : Option Addr).map (·.add (i * 2))) := ⟨_, rfl⟩
                rw [← hAD] at hcut
                have hst := Sl.tail (own_below HFW.out HB5.out) (i := i) (by omega)
                rw [← hAD] at hst
                obtain ⟨A6, c6, w6, hap3, o6, g6, a6, _⟩ := run_app (P := Try.prog) w5 79 79 104 z104 2 24 Try.underlying79 info104 rfl (by omega) (by omega) (.slice A5 (i + 1) c5) (i + 1) (EV (Q.l.take i) ++ EV [(z, bs)]) HO5.out.1 _ (.slice AD (Q.l.length - i) (cq - i)) (Q.l.length - i) (EV (Q.l.drop i)) hst (EV_one _) (by omega)
                have HB6 : Hid (Below w3.heap.size w3 w6) := Lib.hid (HB5.out.grown g6 (Nat.le_trans HB5.out.size (Nat.le_refl _)) (fun k hk => HO5.out.2 k hk))
                have HO6 := Lib.hid (And.intro o6 (show ∀ b, (Value.slice A6 (i + 1 + (Q.l.length - i)) c6).ownBlock = some b → w3.heap.size ≤ b by
                  intro b hb
                  rcases a6 with e | e
                  · rw [e] at hb; exact HO5.out.2 b hb
                  · rw [e] at hb; injection hb with hb; have := HB5.out.size; omega))
                have x6 : w6.cell? ⟨q, 3, none⟩ = some (.slice (some ⟨g, 0, none⟩) Q.l.length cq) := (HB6.out.cell (p := ⟨q, 3, none⟩) x2).trans x0
                have hfz : w6.frozen? ⟨q, 3, none⟩ = false := HQF.out w6 (HBD.out.trans (HB6.out.mono HBD.out.size))
                have hq5 : q < w5.heap.size := by have := HB5.out.size; omega
                have hq6 : q < w6.heap.size := by have := HB6.out.size; omega
                unfold bstr at hcv hap2
                clear o4 g4 a4 o5 g5 a5 o6 g6 a6 hAD hst x1
                go_wp2_with (first
                  | (at_builtin; refine wpList_app_run _ rfl (.tmp 93) (.tmp 99) 79 79 rfl _ _ rfl rfl _ _ hap ?_)
                  | (at_builtin; refine wpList_app_run _ rfl (.tmp 101) (.tmp 106) 79 79 rfl _ _ rfl rfl _ _ hap2 ?_)
                  | (at_builtin; refine wpList_app_run _ rfl (.tmp 109) (.tmp 115) 79 79 rfl _ _ rfl rfl _ _ hap3 ?_))
                go_ret
                have HB36 := HBD.out.trans (HB6.out.mono HBD.out.size)
                obtain ⟨k1, k2⟩ := (HQ.out.below HB36).setL (L := qins Q.l z bs) (A' := A6) (c' := c6) (by
                  have e1 : (qins Q.l z bs).length = i + 1 + (Q.l.length - i) := by rw [HINS.out]; simp; omega
                  have e2 : EV (qins Q.l z bs) = EV (Q.l.take i) ++ EV [(z, bs)] ++ EV (Q.l.drop i) := by rw [HINS.out, ← EV_append, ← EV_append]; simp
                  rw [e1, e2]
                  exact HO6.out.1)
                have elen : (qins Q.l z bs).length = i + 1 + (Q.l.length - i) := by rw [HINS.out]; simp; omega
                rw [elen] at k1 k2
                refine ⟨by rw [HERR.out]; rfl, ?_, (Mod.of_below HB36).trans k2 (fun _ _ h => h)⟩
                rw [HPUT.out]
                have hsz := HB36.size
                have hlt := fun b => k1.lt (b := b)
                exact k1.mono (fun b hb => hb.elim .inl (fun hb => .inr ⟨by have := HO6.out.2 b hb; have := HBD.out.size; omega, by have := own_lt' HO6.out.1 hb; simpa using this⟩)) (fun b hb => hb.elim (fun hb => by have := HQ.out.lt hb; simp; omega) (fun hb => hb.2))
        · have HIL : Hid (i = Q.l.length) := Lib.hid (by omega)
          have HMG : Hid (mget Q.l z = none) := Lib.hid (mget_no (fun j y hy e => by
            have := hno.out j y (by have := (List.getElem?_eq_some_iff.1 hy).1; omega) hy; omega))
          have HINS : Hid (qins Q.l z bs = Q.l.take i ++ (z, bs) :: Q.l.drop i) := Lib.hid (by
            rw [qins_at z bs Q.l i hi (fun j y hj hy => hno.out j y hj hy) (fun y hy => by rw [List.getElem?_eq_none (by omega)] at hy; cases hy), List.getElem?_eq_none (by omega), if_neg (by simp)])
          have hin2 : decide (i < Q.l.length) = false := decide_eq_false hin
          clear hno
          go_wp2_with fail
          have HQL : Hid (s ≤ Q.l.length → qErr Q k z = 3 ∧ qPut Q k z bs = Q) := Lib.hid fun h => by
            have e : qErr Q k z = 3 := by rw [HQE.out, HMG.out, ← HSE.out]; simp [h]
            exact ⟨e, by unfold qPut; rw [e, if_neg (by decide)]⟩
          have HERR' : Hid (¬ s ≤ Q.l.length → qErr Q k z = 0 ∧ qPut Q k z bs = ⟨Q.at_, Q.sec, qins Q.l z bs⟩) := Lib.hid fun h => by
            have e : qErr Q k z = 0 := by rw [HQE.out, HMG.out, ← HSE.out]; simp [h]
            exact ⟨e, by unfold qPut; rw [e, if_pos rfl]⟩
          have HC0 := Lib.hid (And.intro d3 (And.intro d2 hqr))
          clear HQE d2 d3 hqr
          by_cases hle : s ≤ Q.l.length
          · have hle3 : decide (s ≤ Q.l.length) = true := decide_eq_true hle
            have hle4 : decide ((s : Int) ≤ (Q.l.length : Int)) = true := decide_eq_true (by omega)
            obtain ⟨wd, hwd⟩ : ∃ wd, wd = wr.drew := ⟨_, rfl⟩
            have HCD : Hid (wd.cell? ⟨q, 3, none⟩ = some (.slice Aq Q.l.length cq) ∧ wd.cell? ⟨q, 2, none⟩ = some (.int .i64 (Q.sec : Int)) ∧ q < wd.heap.size) := Lib.hid (by rw [hwd]; exact HC0.out)
            have HBD : Hid (Below w.heap.size w wd) := Lib.hid (by rw [hwd]; exact hb.out.drew)
            go_upto_region 9 with fail
            try simp only [Act.put, List.setIfInBounds_toArray, List.set_cons_zero, List.set_cons_succ]
            obtain ⟨Inv, hInv⟩ : ∃ Inv : Done → World → Prop, Inv = fun _ wI => (fun wI => wI = wd) wI := ⟨_, rfl⟩
            have HI := Lib.hid hInv
            have hcz : Hid (∀ τ wI, Inv τ wI → wI = wd) := by
              intro τ wI h
              rw [hInv] at h
              exact h
            have H00 : Hid (Inv Done.none wr.drew) := by rw [hInv]; exact hwd.symm
            clear hInv hwd
            refine wp_region_inv (by kernel_rfl) [⟨0, false, [], []⟩, ⟨1, false, [], []⟩, ⟨2, false, [], []⟩, ⟨3, false, [], []⟩, ⟨4, false, [], []⟩, ⟨5, false, [], []⟩, ⟨6, false, [], []⟩, ⟨7, false, [], []⟩, ⟨8, false, [], []⟩, ⟨9, false, [], []⟩, ⟨10, false, [], []⟩] (by kernel_rfl) Inv (fun _ _ => True) (fun _ => ⟨undef, trivial⟩) H00.out ?_
            iterate 11 (apply WpI.pure; (simp only [List.getElem?_toArray, List.getElem?_cons_succ, List.getElem?_cons_zero]; rfl); (intro τ wI hA hI; have f0 := hcz.out τ wI hI; have e1 := f0; clear f0; subst e1; obtain ⟨x0, x1, x2⟩ := HCD.out; go_simp; exact ⟨hI, Is.rfl'⟩); simp only [Act.put, List.setIfInBounds_toArray, List.set_cons_zero, List.set_cons_succ])
            refine WpI.done ?_
            intro w3 hI
            rw [HI.out] at hI
            have hE := hI
            obtain rfl : w3 = wd := hE
            clear hI hcz H00 HI hb
            have HQLL := Lib.hid (HQL.out hle)
            go_wp2_with fail
            go_ret
            rw [HQLL.out.1, HQLL.out.2]
            exact ⟨rfl, HKEEP.out _ HBD.out⟩
          · have hle3 : decide (s ≤ Q.l.length) = false := decide_eq_false hle
            have hle4 : decide ((s : Int) ≤ (Q.l.length : Int)) = false := decide_eq_false (by omega)
            have HERR := Lib.hid (HERR'.out hle).1
            have HPUT := Lib.hid (HERR'.out hle).2
            obtain ⟨wd, hwd⟩ : ∃ wd, wd = wr.drew := ⟨_, rfl⟩
            have HCD : Hid (wd.cell? ⟨q, 3, none⟩ = some (.slice Aq Q.l.length cq) ∧ wd.cell? ⟨q, 2, none⟩ = some (.int .i64 (Q.sec : Int)) ∧ q < wd.heap.size) := Lib.hid (by rw [hwd]; exact HC0.out)
            have HBD : Hid (Below w.heap.size w wd) := Lib.hid (by rw [hwd]; exact hb.out.drew)
            go_upto_region 9 with fail
            try simp only [Act.put, List.setIfInBounds_toArray, List.set_cons_zero, List.set_cons_succ]
            obtain ⟨Inv, hInv⟩ : ∃ Inv : Done → World → Prop, Inv = fun _ wI => (fun wI => wI = wd) wI := ⟨_, rfl⟩
            have HI := Lib.hid hInv
            have hcz : Hid (∀ τ wI, Inv τ wI → wI = wd) := by
              intro τ wI h
              rw [hInv] at h
              exact h
            have H00 : Hid (Inv Done.none wr.drew) := by rw [hInv]; exact hwd.symm
            clear hInv hwd
            refine wp_region_inv (by kernel_rfl) [⟨0, false, [], []⟩, ⟨1, false, [], []⟩, ⟨2, false, [], []⟩, ⟨3, false, [], []⟩, ⟨4, false, [], []⟩, ⟨5, false, [], []⟩, ⟨6, false, [], []⟩, ⟨7, false, [], []⟩, ⟨8, false, [], []⟩, ⟨9, false, [], []⟩, ⟨10, false, [], []⟩] (by kernel_rfl) Inv (fun _ _ => True) (fun _ => ⟨undef, trivial⟩) H00.out ?_
            iterate 11 (apply WpI.pure; (simp only [List.getElem?_toArray, List.getElem?_cons_succ, List.getElem?_cons_zero]; rfl); (intro τ wI hA hI; have f0 := hcz.out τ wI hI; have e1 := f0; clear f0; subst e1; obtain ⟨x0, x1, x2⟩ := HCD.out; go_simp; exact ⟨hI, Is.rfl'⟩); simp only [Act.put, List.setIfInBounds_toArray, List.set_cons_zero, List.set_cons_succ])
            refine WpI.done ?_
            intro w3 hI
            rw [HI.out] at hI
            have hE := hI
            obtain rfl : w3 = wd := hE
            clear hI hcz H00 HI hb
            obtain ⟨x0, x1, x2⟩ := HCD.out
            have HFW := Lib.hid (own_below HOW.out HBD.out)
            have hicq : i ≤ cq := by
              obtain ⟨_, _, hv, hcap, _⟩ := own_form HOW.out
              simp only [Value.slice.injEq] at hv
              have := hv.2.2
              omega
            have HNIL : Hid (∀ wx : World, (wx.alloc (.cells #[] 104)).ownsRow 0 104 2 (.slice (some ⟨wx.heap.size, 0, none⟩) 0 0) 0 []) := Lib.hid fun wx => own_of_blk (cs := []) (Blk.new wx 104 #[]) 2 0 rfl (by simp [maxLen])
            have htk := Sl.of_own (own_take (HFW.out.alloc (.cells #[] 104)) (n' := i) (by omega))
            rw [EV_take] at htk
            have HTK := Lib.hid htk
            clear htk
            have y0 : (w3.alloc (.cells #[] 104)).cell? ⟨q, 3, none⟩ = some (.slice Aq Q.l.length cq) := (((Below.refl w3.heap.size w3).alloc (Nat.le_refl _) (.cells #[] 104)).cell (p := ⟨q, 3, none⟩) x2).trans x0
            obtain ⟨A4, c4, w4, hap, o4, g4, a4, _⟩ := run_app (P := Try.prog) (w3.alloc (.cells #[] 104)) 79 79 104 z104 2 24 Try.underlying79 info104 rfl (by omega) (by omega) (.slice (some ⟨w3.heap.size, 0, none⟩) 0 0) 0 [] (HNIL.out w3) _ (.slice Aq i cq) i (EV (Q.l.take i)) HTK.out (EV_one _) (by omega)
            simp only [Nat.zero_add, List.nil_append] at o4 g4 a4 hap
            have HB4 : Hid (Below w3.heap.size w3 w4) := Lib.hid (((Below.refl _ _).alloc (Nat.le_refl _) _).grown g4 (by simp) (by simp [Value.ownBlock]))
            have HO4 := Lib.hid (And.intro o4 (show ∀ b, (Value.slice A4 i c4).ownBlock = some b → w3.heap.size ≤ b by
              intro b hb
              rcases a4 with e | e <;> rw [e] at hb <;> simp [Value.ownBlock] at hb <;> omega))
            have hcv := run_str w4 _ 22 5 9 Ab 256 cb bs Try.underlying22 Try.underlying5 Try.underlying9 (HSB.out.below (by omega) ((HBD.out.trans (HB4.out.mono HBD.out.size))))
            obtain ⟨A5, c5, w5, hap2, o5, g5, a5, _⟩ := run_app (P := Try.prog) (w4.alloc (.cells #[.int .i64 z, bstr bs] 104)) 79 79 104 z104 2 24 Try.underlying79 info104 rfl (by omega) (by omega) (.slice A4 i c4) i (EV (Q.l.take i)) (HO4.out.1.alloc _) _ (.slice (some ⟨w4.heap.size, 0, none⟩) 1 1) 1 (EV [(z, bs)]) (Sl.of_blk (Blk.new w4 104 #[.int .i64 z, bstr bs]) 2 1 1 rfl (by omega)) (EV_one _) (by omega)
            have HB5 : Hid (Below w3.heap.size w3 w5) := Lib.hid (HB4.out.trans ((((Below.refl w3.heap.size w4).alloc HB4.out.size _)).grown g5 (by have := HB4.out.size; simp; omega) (fun k hk => HO4.out.2 k hk)))
            have HO5 := Lib.hid (And.intro o5 (show ∀ b, (Value.slice A5 (i + 1) c5).ownBlock = some b → w3.heap.size ≤ b by
              intro b hb
              rcases a5 with e | e
              · rw [e] at hb; exact HO4.out.2 b hb
              · rw [e] at hb; injection hb with hb; have := HB4.out.size; simp at hb; omega))
            have x5 : w5.cell? ⟨q, 3, none⟩ = some (.slice Aq Q.l.length cq) := (HB5.out.cell (p := ⟨q, 3, none⟩) x2).trans x0
            have hcut := cut_from' 79 104 .i64 Try.underlying79 info104 Aq Q.l.length cq i (by omega)
            obtain ⟨AD, hAD⟩ : ∃ AD, AD = (if cq = i then Aq else Aq.map (·.add (i * 2))) := ⟨_, rfl⟩
            rw [← hAD] at hcut
            have hst := Sl.tail (own_below HFW.out HB5.out) (i := i) (by omega)
            rw [← hAD] at hst
            obtain ⟨A6, c6, w6, hap3, o6, g6, a6, _⟩ := run_app (P := Try.prog) w5 79 79 104 z104 2 24 Try.underlying79 info104 rfl (by omega) (by omega) (.slice A5 (i + 1) c5) (i + 1) (EV (Q.l.take i) ++ EV [(z, bs)]) HO5.out.1 _ (.slice AD (Q.l.length - i) (cq - i)) (Q.l.length - i) (EV (Q.l.drop i)) hst (EV_one _) (by omega)
            have HB6 : Hid (Below w3.heap.size w3 w6) := Lib.hid (HB5.out.grown g6 (Nat.le_trans HB5.out.size (Nat.le_refl _)) (fun k hk => HO5.out.2 k hk))
            have HO6 := Lib.hid (And.intro o6 (show ∀ b, (Value.slice A6 (i + 1 + (Q.l.length - i)) c6).ownBlock = some b → w3.heap.size ≤ b by
              intro b hb
              rcases a6 with e | e
              · rw [e] at hb; exact HO5.out.2 b hb
              · rw [e] at hb; injection hb with hb; have := HB5.out.size; omega))
            have x6 : w6.cell? ⟨q, 3, none⟩ = some (.slice Aq Q.l.length cq) := (HB6.out.cell (p := ⟨q, 3, none⟩) x2).trans x0
            have hfz : w6.frozen? ⟨q, 3, none⟩ = false := HQF.out w6 (HBD.out.trans (HB6.out.mono HBD.out.size))
            have hq5 : q < w5.heap.size := by have := HB5.out.size; omega
            have hq6 : q < w6.heap.size := by have := HB6.out.size; omega
            unfold bstr at hcv hap2
            clear o4 g4 a4 o5 g5 a5 o6 g6 a6 hAD hst x1
            go_wp2_with (first
              | (at_builtin; refine wpList_app_run _ rfl (.tmp 93) (.tmp 99) 79 79 rfl _ _ rfl rfl _ _ hap ?_)
              | (at_builtin; refine wpList_app_run _ rfl (.tmp 101) (.tmp 106) 79 79 rfl _ _ rfl rfl _ _ hap2 ?_)
              | (at_builtin; refine wpList_app_run _ rfl (.tmp 109) (.tmp 115) 79 79 rfl _ _ rfl rfl _ _ hap3 ?_))
            go_ret
            have HB36 := HBD.out.trans (HB6.out.mono HBD.out.size)
            obtain ⟨k1, k2⟩ := (HQ.out.below HB36).setL (L := qins Q.l z bs) (A' := A6) (c' := c6) (by
              have e1 : (qins Q.l z bs).length = i + 1 + (Q.l.length - i) := by rw [HINS.out]; simp; omega
              have e2 : EV (qins Q.l z bs) = EV (Q.l.take i) ++ EV [(z, bs)] ++ EV (Q.l.drop i) := by rw [HINS.out, ← EV_append, ← EV_append]; simp
              rw [e1, e2]
              exact HO6.out.1)
            have elen : (qins Q.l z bs).length = i + 1 + (Q.l.length - i) := by rw [HINS.out]; simp; omega
            rw [elen] at k1 k2
            refine ⟨by rw [HERR.out]; rfl, ?_, (Mod.of_below HB36).trans k2 (fun _ _ h => h)⟩
            rw [HPUT.out]
            have hsz := HB36.size
            have hlt := fun b => k1.lt (b := b)
            exact k1.mono (fun b hb => hb.elim .inl (fun hb => .inr ⟨by have := HO6.out.2 b hb; have := HBD.out.size; omega, by have := own_lt' HO6.out.1 hb; simpa using this⟩)) (fun b hb => hb.elim (fun hb => by have := HQ.out.lt hb; simp; omega) (fun hb => hb.2))
  · have HE : Hid (qErr Q k z = 2 ∧ qPut Q k z bs = Q) := Lib.hid (by
      have e : qErr Q k z = 2 := by unfold qErr; rw [if_pos (fun h => hz ⟨h.1, h.2.1⟩)]
      exact ⟨e, by unfold qPut; rw [e, if_neg (by decide)]⟩)
    by_cases hz0 : z < 0
    · clear hz
      go_enter Try.func36, Try.ntmps36
      go_wp2_with fail
      go_ret
      rw [HE.out.1, HE.out.2]
      exact ⟨rfl, HKEEP.out _ (Below.refl _ _)⟩
    · have hz0' : 0 ≤ z := by omega
      have hzk : (k : Int) ≤ z := by omega
      clear hz
      go_enter Try.func36, Try.ntmps36
      go_wp2_with fail
      go_ret
      rw [HE.out.1, HE.out.2]
      exact ⟨rfl, HKEEP.out _ (Below.refl _ _)⟩
end Go.Proofs.Ytjdobjcbmmdjeaa
