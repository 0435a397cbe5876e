/- RefdbX: contracts of none, known, reach. -/
import Derived.Test.YtcffmpjdonncgaaG2
namespace Go.Proofs.Ytcffmpjdonncgaa
open Go.RowKit Go.Proofs.YtcffmpjdonncgaaW.PrintWords
open Go.Proofs.Ytcffmpjdonncgaa.PRef (S33 k33 k33_open z33)

/-- a graph that New made of l -/
def GrOf (w : World) (g : Nat) (l : List S33) : Prop := ∃ w0 r b e d k, NewSt w0 w (fun _ => False) g r b e d (M1f l l.length) (backOf k) (Mdf l l.length) (edgeOf k) ∧ k.Perm (M1f l l.length)
theorem GrOf.below {w w' : World} {g : Nat} {l : List S33} (h : GrOf w g l) (hb : Below w.heap.size w w') : GrOf w' g l := by
  obtain ⟨w0, r, b, e, d, k, hs, hp⟩ := h
  exact ⟨w0, r, b, e, d, k, hs.later hb, hp⟩
theorem GrOf.at_ {w : World} {g : Nat} {l : List S33} (h : GrOf w g l) : ∃ r, w.cell? ⟨g, 0, none⟩ = some (.map (some r)) ∧ g < w.heap.size := by
  obtain ⟨w0, r, b, e, d, k, hs, hp⟩ := h
  exact ⟨r, hs.cells.1, hs.cells.2.2.2.2⟩
theorem gnone_ok (w : World) (g r : Nat) (hc : w.cell? ⟨g, 0, none⟩ = some (.map (some r))) : Calls Try.prog 28 #[.pointer (some ⟨g, 0, none⟩)] w fun e w' => e = .returned (.bool false) ∧ w = w' := by
  have q := fun (w : World) => run_eql_map_nil (P := Try.prog) w 39 _ _ (some r) Try.underlying39
  go_enter Try.func28, Try.ntmps28
  go_wp2_with fail
  go_ret
  exact ⟨rfl, rfl⟩
theorem GrOf.isnt {w : World} {g : Nat} {l : List S33} (h : GrOf w g l) : Calls Try.prog 28 #[.pointer (some ⟨g, 0, none⟩)] w fun e w' => e = .returned (.bool false) ∧ w = w' := by
  obtain ⟨r, hc, _⟩ := h.at_
  exact gnone_ok w g r hc
def isIn (l : List S33) (p : ByteArray) : Bool := (mget (M1f l l.length) p).isSome
theorem isIn_iff {l : List S33} {p : ByteArray} : isIn l p = true ↔ p ∈ l.map (·.f0) := by
  rw [← M1f_keys]
  unfold isIn
  cases h : mget (M1f l l.length) p with
  | none => simp only [Option.isSome_none, Bool.false_eq_true, false_iff]; exact mget_none.1 h
  | some v => simp only [Option.isSome_some, true_iff]; exact List.mem_map.2 ⟨(p, v), mget_mem h, rfl⟩
theorem GrOf.has {w : World} {g : Nat} {l : List S33} (h : GrOf w g l) (p : ByteArray) : Calls Try.prog 27 #[.pointer (some ⟨g, 0, none⟩), .string p] w fun e w' => e = .returned (.bool (isIn l p)) ∧ w = w' := by
  obtain ⟨w0, r, b, e, d, k, hs, hp⟩ := h
  exact hs.has p

open Classical in
noncomputable def knownErr (l : List S33) (ps : List ByteArray) : Int := if ∀ p ∈ ps, p ∈ l.map (·.f0) then 0 else 14

theorem known_ok (w : World) (F : Nat → Prop) (g : Nat) (l : List S33) (A : Option Addr) (n c : Nat) (ps : List ByteArray) (h : GrOf w g l) (hp : Sl w F 1 (.slice A n c) n (strs ps)) (hn : n ≤ 1000000000) :
    Calls Try.prog 30 #[.pointer (some ⟨g, 0, none⟩), .slice A n c] w fun e w' => e = .returned (.int .i64 (knownErr l ps)) ∧ w = w' := by
  have HG := Lib.hid h
  have hpl : ps.length = n := by have := hp.1; rw [strs_length, Nat.mul_one] at this; exact this
  have HP := Lib.hid hp
  have HPL := Lib.hid hpl
  clear h hp hpl
  go_enter Try.func30, Try.ntmps30
  go_wp2_with fail
  refine HG.out.isnt.mono ?_
  rintro e w' ⟨rfl, rfl⟩
  go_wp2_with fail
  go_loopg [11] n (fun kq iv wr => ∃ (i : Nat), iv = .int .i64 i ∧ i ≤ n ∧ kq = n - i ∧ wr = w ∧ Hid (∀ p ∈ ps.take i, p ∈ l.map (·.f0)))
  case atStart => exact ⟨0, rfl, Nat.zero_le _, rfl, rfl, Lib.hid (by simp)⟩
  case round =>
    obtain ⟨i, rfl, hi, rfl, rfl, hall⟩ := hrel
    by_cases hlt : i < n
    · obtain ⟨_, A', c', hv, _, hcc⟩ := HP.out
      obtain ⟨ad, hA, _, hcell⟩ := hcc (by omega)
      simp only [Value.slice.injEq] at hv
      obtain ⟨p0, hp0⟩ : ∃ p0, ps[i]? = some p0 := ⟨_, List.getElem?_eq_getElem (by rw [HPL.out]; exact hlt)⟩
      have h0 := hcell 0 _ (strs_get (List.getElem?_eq_getElem (show 0 < ps.length by rw [HPL.out]; omega)))
      have hsp := spot_none h0
      obtain rfl : A = some ⟨ad.block, ad.off, none⟩ := by rw [hv.1, hA, ← hsp]
      have hc0 := hcell i _ (strs_get hp0)
      rw [hsp, add_lit0] at hc0
      have HH := Lib.hid (HG.out.has p0)
      have HP0 := Lib.hid hp0
      clear hcc hcell hA hv h0 hsp hp0
      go_wp2_with fail
      refine HH.out.mono ?_
      rintro e w' ⟨rfl, rfl⟩
      by_cases hb : isIn l p0 = true
      · have HN : Hid (∀ p ∈ ps.take (i + 1), p ∈ l.map (·.f0)) := by
          obtain ⟨hil, hxe⟩ := List.getElem?_eq_some_iff.1 HP0.out
          rw [List.take_succ_eq_append_getElem hil, hxe]
          refine Lib.hid fun p hp => ?_
          rcases List.mem_append.1 hp with hp | hp
          · exact hall.out p hp
          · rw [List.mem_singleton] at hp; rw [hp]; exact isIn_iff.1 hb
        rw [hb]
        clear hb HH hc0
        go_wp2_with fail
        go_roundg (n - (i + 1))
        case measure => omega
        case rel => exact ⟨i + 1, by go_num, by omega, rfl, rfl, HN⟩
      · have hb2 : isIn l p0 = false := by simpa using hb
        have he : knownErr l ps = 14 := by
          unfold knownErr
          rw [if_neg]
          intro hx
          exact hb (isIn_iff.2 (hx p0 (List.mem_of_getElem? HP0.out)))
        rw [hb2]
        have HE := Lib.hid he
        clear hb hb2 HH hc0 he
        go_wp2_with fail
        go_ret
        exact ⟨by rw [HE.out]; rfl, rfl⟩
    · obtain rfl : i = n := by omega
      have he : knownErr l ps = 0 := by
        unfold knownErr
        rw [if_pos]
        have := hall.out
        rwa [List.take_of_length_le (by rw [HPL.out]; exact Nat.le_refl _)] at this
      have HE := Lib.hid he
      clear he hall
      go_wp2_with fail
      go_ret
      exact ⟨by rw [HE.out]; rfl, rfl⟩

/-- what some paths reach -/
inductive Rch (l : List S33) (ps : List ByteArray) : ByteArray → Prop
  | root {p : ByteArray} (h : p ∈ ps) (hk : p ∈ l.map (·.f0)) : Rch l ps p
  | step {x : S33} {t : ByteArray} (h : Rch l ps x.f0) (hx : x ∈ l) (ht : t ∈ x.f3) (hk : t ∈ l.map (·.f0)) : Rch l ps t
theorem Rch.key {l : List S33} {ps : List ByteArray} {p : ByteArray} (h : Rch l ps p) : p ∈ l.map (·.f0) := by cases h <;> assumption
noncomputable abbrev KB : Keys Try.prog 9 ByteArray := KS
def trues (ks : List ByteArray) : List (ByteArray × Value) := ks.map fun p => (p, .bool true)
theorem trues_none {ks : List ByteArray} {p : ByteArray} (h : p ∉ ks) : mget (trues ks) p = none := mget_none.2 (by simpa [trues, Function.comp_def] using h)
theorem trues_some {ks : List ByteArray} {p : ByteArray} (h : p ∈ ks) : mget (trues ks) p = some (.bool true) := by
  induction ks with
  | nil => cases h
  | cons k ks ih =>
    simp only [trues, List.map_cons, mget] at ih ⊢
    by_cases e : p = k
    · rw [if_pos e]
    · rw [if_neg e]
      rcases List.mem_cons.1 h with h | h
      · exact (e h).elim
      · exact ih h
theorem trues_keys (ks : List ByteArray) : (trues ks).map (·.1) = ks := by simp [trues, Function.comp_def]
/-- where a search stands: what was seen, and what is to be done -/
structure Dfs (l : List S33) (ps seen todo : List ByteArray) : Prop where
  got : ∀ p ∈ seen, Rch l ps p
  will : ∀ p ∈ todo, p ∈ l.map (·.f0) → Rch l ps p
  clos : ∀ x ∈ l, x.f0 ∈ seen → ∀ t ∈ x.f3, t ∈ l.map (·.f0) → t ∈ seen ∨ t ∈ todo
  root : ∀ p ∈ ps, p ∈ l.map (·.f0) → p ∈ seen ∨ p ∈ todo
  nod : seen.Nodup
theorem Dfs.start (l : List S33) (ps : List ByteArray) : Dfs l ps [] ps := ⟨by simp, fun p hp hk => .root hp hk, by simp, fun p hp _ => .inr hp, List.nodup_nil⟩
theorem Dfs.done {l : List S33} {ps seen : List ByteArray} (h : Dfs l ps seen []) (p : ByteArray) : p ∈ seen ↔ Rch l ps p := by
  refine ⟨h.got p, fun hr => ?_⟩
  induction hr with
  | root hp hk => exact (h.root _ hp hk).elim id (fun h => by cases h)
  | step _ hx ht hk ih => exact (h.clos _ hx ih _ ht hk).elim id (fun h => by cases h)
theorem Dfs.old {l : List S33} {ps seen todo : List ByteArray} {p : ByteArray} (h : Dfs l ps seen (todo ++ [p])) (hp : p ∉ l.map (·.f0) ∨ p ∈ seen) : Dfs l ps seen todo := by
  refine ⟨h.got, fun q hq => h.will q (List.mem_append_left _ hq), fun x hx hs t ht hk => ?_, fun q hq hk => ?_, h.nod⟩
  · rcases h.clos x hx hs t ht hk with h1 | h1
    · exact .inl h1
    · rcases List.mem_append.1 h1 with h1 | h1
      · exact .inr h1
      · rw [List.mem_singleton] at h1; subst h1; exact hp.elim (fun h => (h hk).elim) .inl
  · rcases h.root q hq hk with h1 | h1
    · exact .inl h1
    · rcases List.mem_append.1 h1 with h1 | h1
      · exact .inr h1
      · rw [List.mem_singleton] at h1; subst h1; exact hp.elim (fun h => (h hk).elim) .inl
theorem Dfs.new {l : List S33} {ps seen todo : List ByteArray} {x0 : S33} (hn : (l.map (·.f0)).Nodup) (h : Dfs l ps seen (todo ++ [x0.f0])) (hx0 : x0 ∈ l) (hs : x0.f0 ∉ seen) : Dfs l ps (seen ++ [x0.f0]) (todo ++ SU x0.f3) := by
  have hk0 : x0.f0 ∈ l.map (·.f0) := List.mem_map.2 ⟨x0, hx0, rfl⟩
  have hr : Rch l ps x0.f0 := h.will _ (List.mem_append_right _ (List.mem_singleton.2 rfl)) hk0
  have mv : ∀ t, t ∈ seen ∨ t ∈ todo ++ [x0.f0] → t ∈ seen ++ [x0.f0] ∨ t ∈ todo ++ SU x0.f3 := by
    intro t ht
    rcases ht with ht | ht
    · exact .inl (List.mem_append_left _ ht)
    · rcases List.mem_append.1 ht with ht | ht
      · exact .inr (List.mem_append_left _ ht)
      · exact .inl (List.mem_append_right _ ht)
  refine ⟨fun q hq => ?_, fun q hq hk => ?_, fun x hx hq t ht hk => ?_, fun q hq hk => mv q (h.root q hq hk), ?_⟩
  · rcases List.mem_append.1 hq with hq | hq
    · exact h.got q hq
    · rw [List.mem_singleton] at hq; rw [hq]; exact hr
  · rcases List.mem_append.1 hq with hq | hq
    · exact h.will q (List.mem_append_left _ hq) hk
    · exact .step hr hx0 (SU_mem.1 hq) hk
  · rcases List.mem_append.1 hq with hq | hq
    · exact mv t (h.clos x hx hq t ht hk)
    · rw [List.mem_singleton] at hq
      have : x = x0 := map_inj_nodup (·.f0) hn x hx x0 hx0 hq
      subst this
      exact .inr (List.mem_append_right _ (SU_mem.2 ht))
  · rw [List.nodup_append]
    refine ⟨h.nod, by simp, fun a ha b hb => ?_⟩
    rw [List.mem_singleton] at hb
    subst hb
    rintro rfl
    exact hs ha
theorem Dfs.len {l : List S33} {ps seen todo : List ByteArray} (h : Dfs l ps seen todo) : seen.length ≤ l.length := by
  have := h.nod.length_le_of_subset (l₂ := l.map (·.f0)) (fun p hp => (h.got p hp).key)
  simpa using this
theorem NewSt.refsLook {w0 w : World} {X : Nat → Prop} {g r b e d : Nat} {M1 Mb Md : List (ByteArray × List ByteArray)} {E : List ((ByteArray × ByteArray) × Value)} (h : NewSt w0 w X g r b e d M1 Mb Md E) (p : ByteArray) : ∃ A c, (Instr.lookup 39 (.map (some r)) (.string p) false).run Try.prog w = .ok (.slice A (mgetD M1 p).length c) w ∧ w.ownsRow 0 9 1 (.slice A (mgetD M1 p).length c) (mgetD M1 p).length (strs (mgetD M1 p)) := by
  obtain ⟨⟨Fr, Fb, Fd, D1, Db, Dd, hs, hlo, _⟩, hbel⟩ := h
  obtain ⟨v, hrun, _, hrow, _⟩ := hs.refs.look (mt := 39) (st := 23) Try.underlying39 zeroStrs p
  obtain ⟨A, c, rfl, _, _⟩ := hrow.form
  exact ⟨A, c, hrun, hrow.1⟩
theorem GrOf.look {w : World} {g : Nat} {l : List S33} (h : GrOf w g l) (hn : (l.map (·.f0)).Nodup) {x : S33} (hx : x ∈ l) : ∃ r A c, w.cell? ⟨g, 0, none⟩ = some (.map (some r)) ∧ g < w.heap.size ∧ (Instr.lookup 39 (.map (some r)) (.string x.f0) false).run Try.prog w = .ok (.slice A (SU x.f3).length c) w ∧ w.ownsRow 0 9 1 (.slice A (SU x.f3).length c) (SU x.f3).length (strs (SU x.f3)) := by
  obtain ⟨w0, r, b, e, d, k, hs, hp⟩ := h
  obtain ⟨A, c, h1, h2⟩ := hs.refsLook x.f0
  have e1 : mgetD (M1f l l.length) x.f0 = SU x.f3 := by unfold mgetD; rw [M1f_get hn hx]; rfl
  rw [e1] at h1 h2
  exact ⟨r, A, c, hs.cells.1, hs.cells.2.2.2.2, h1, h2⟩
theorem zeroBool (w : World) : (zeroValue 4).run Try.prog w = .ok (.bool false) w := Try.zeroValue4 w

set_option maxRecDepth 100000 in
set_option maxHeartbeats 2000000 in
theorem reach_ok (w : World) (F : Nat → Prop) (g : Nat) (l : List S33) (A : Option Addr) (n c : Nat) (ps : List ByteArray) (h : GrOf w g l) (hp : Sl w F 1 (.slice A n c) n (strs ps)) (hn : n ≤ 1000000) (hl : l.length ≤ 4096) (hnd : (l.map (·.f0)).Nodup) (hr : ∀ x ∈ l, x.f3.length ≤ 1000) :
    Calls Try.prog 29 #[.pointer (some ⟨g, 0, none⟩), .slice A n c] w fun e w' => ∃ m seen, e = .returned (.map (some m)) ∧ MapAt KS w' m (trues seen) ∧ w.heap.size ≤ m ∧ (∀ p, p ∈ seen ↔ Rch l ps p) ∧ seen.length ≤ l.length ∧ Below w.heap.size w w' := by
  have hmk : ∀ wx : World, (Instr.makeMap 61 none).run Try.prog wx = .ok (.map (some wx.heap.size)) (wx.alloc (.map #[] 0)) := fun wx => rfl
  have HG := Lib.hid h
  have hpl : ps.length = n := by have := hp.1; rw [strs_length, Nat.mul_one] at this; exact this
  have HPL := Lib.hid hpl
  have HND := Lib.hid hnd
  have HR := Lib.hid hr
  have HP := Lib.hid hp
  clear h hp hpl hnd hr
  go_enter Try.func29, Try.ntmps29
  go_wp2_with fail
  obtain ⟨w1, hw1⟩ : ∃ w1, w1 = w.alloc (.map #[] 0) := ⟨_, rfl⟩
  rw [← hw1]
  have hb1 : Below w.heap.size w w1 := by rw [hw1]; exact (Below.refl _ _).alloc (Nat.le_refl _) _
  have hm1 : MapAt KS w1 w.heap.size (trues []) := by rw [hw1]; exact MapAt.new w
  have HP1 : Hid (Sl w1 F 1 (.slice A n c) n (strs ps)) := Lib.hid (HP.out.below (by omega) hb1)
  have HM1 := Lib.hid (And.intro hb1 hm1)
  clear hb1 hm1 hw1 hmk
  refine (clone_strs A n c ps F w1 HP1.out (by omega)).mono ?_
  rintro e w2 ⟨A2, c2, rfl, o2, b2, f2⟩
  have HB2 := Lib.hid (HM1.out.1.trans (b2.mono HM1.out.1.size))
  have HM2 := Lib.hid (HM1.out.2.below b2)
  have HO2 : Hid (w2.ownsRow w.heap.size 9 1 (.slice A2 n c2) n (strs ps)) := Lib.hid (own_raise o2 (fun q hq => by have := f2 q hq; have := HM1.out.1.size; omega))
  clear o2 b2 f2 HM1 HP1 HP
  go_wp2_with fail
  rw [← HPL.out]
  go_loopg [6] ((l.length - 0) * 1001 + ps.length) (fun kq tv wr => ∃ (seen todo : List ByteArray) (At : Option Addr) (ct : Nat), tv = .slice At todo.length ct ∧ kq = (l.length - seen.length) * 1001 + todo.length ∧ Hid (Dfs l ps seen todo) ∧ Hid (Below w.heap.size w wr) ∧ Hid (MapAt KS wr w.heap.size (trues seen)) ∧ Hid (wr.ownsRow w.heap.size 9 1 (.slice At todo.length ct) todo.length (strs todo)) ∧ todo.length ≤ n + 1000 * seen.length)
  case atStart => exact ⟨[], ps, A2, c2, by rw [HPL.out], rfl, Lib.hid (Dfs.start l ps), HB2, HM2, by rw [HPL.out]; exact HO2, by rw [HPL.out]; simp⟩
  case round =>
    clear HB2 HM2 HO2
    obtain ⟨seen, todo, At, ct, rfl, rfl, hd, hb, hmap, ho, htl⟩ := hrel
    have hsl := hd.out.len
    by_cases h0 : todo = []
    · subst h0
      have HE := Lib.hid (hd.out.done)
      have HSL := Lib.hid hsl
      clear hd ho htl hsl
      go_wp2_with fail
      go_ret
      exact ⟨w.heap.size, seen, rfl, hmap.out, Nat.le_refl _, HE.out, HSL.out, hb.out⟩
    · obtain ⟨todo', p, rfl⟩ : ∃ t' p, todo = t' ++ [p] := ⟨_, _, (List.dropLast_concat_getLast h0).symm⟩
      have htl2 : (todo' ++ [p]).length = todo'.length + 1 := by simp
      obtain ⟨bt, capt, hve, hbase, _⟩ := ho.out.form (by omega)
      obtain ⟨_, _, hve2, hcap, _⟩ := own_form ho.out
      simp only [Value.slice.injEq] at hve
      obtain ⟨rfl, _, rfl⟩ := hve
      simp only [Value.slice.injEq] at hve2
      rw [← hve2.2.2] at hcap
      clear hve2
      have hc0 : wr.cell? ⟨bt, todo'.length, none⟩ = some (.string p) := by
        have := ho.out.cells rfl todo'.length _ (strs_get (l := todo' ++ [p]) (s := p) (by simp))
        rwa [add_lit0, Nat.zero_add] at this
      have HT := Lib.hid (own_take ho.out (n' := todo'.length) (by omega))
      have HG2 := Lib.hid (HG.out.below hb.out)
      have HT3 : Hid (wr.ownsRow w.heap.size 9 1 (.slice (some ⟨bt, 0, none⟩) todo'.length ct) todo'.length (strs todo')) := by
        have := HT.out
        rw [Nat.mul_one, strs_append, List.take_left' (strs_length _)] at this
        exact Lib.hid this
      rw [htl2] at htl hcap ⊢
      have w1 : IntKind.i64.wrap (((todo'.length + 1 : Nat) : Int) - 1) = (todo'.length : Int) := by rw [IntKind.wrap_i64]; omega
      have hsm : todo'.length ≤ 6000000 := by omega
      have hin : ((todo'.length + 1 : Nat) : Int) = (todo'.length : Int) + 1 := by omega
      have HLN := Lib.hid htl
      obtain ⟨bt2, hbt2⟩ : ∃ b, b = isIn l p := ⟨_, rfl⟩
      have hh := HG2.out.has p
      rw [← hbt2] at hh
      have HH := Lib.hid hh
      have HBT := Lib.hid hbt2
      have HSM := Lib.hid hsl
      clear h0 ho htl2 HT htl hin hh hbt2 hsl w1
      go_wp2_with fail
      refine HH.out.mono ?_
      rintro e w' ⟨rfl, rfl⟩
      by_cases hbt : bt2 = true
      · subst hbt
        by_cases hs : p ∈ seen
        · have hlk := hmap.out.lookup_some (mt := 61) Try.underlying61 (trues_some hs) false
          have hlk : (Instr.lookup 61 (.map (some w.heap.size)) (.string p) false).run Try.prog wr = .ok (.bool true) wr := hlk
          have HD := Lib.hid (hd.out.old (.inr hs))
          clear hs hd HH HBT hc0
          go_wp2_with fail
          go_roundg ((l.length - seen.length) * 1001 + todo'.length)
          case measure => first | omega | (simp; done) | (simp; omega)
          case rel => exact ⟨seen, todo', _, _, rfl, rfl, HD, hb, hmap, HT3, by have := HLN.out; omega⟩
        · have hlk := hmap.out.lookup_none (mt := 61) Try.underlying61 (trues_none hs) (zeroBool wr) false
          have hlk : (Instr.lookup 61 (.map (some w.heap.size)) (.string p) false).run Try.prog wr = .ok (.bool false) wr := hlk
          obtain ⟨x0, hx0, hxp⟩ := List.mem_map.1 (isIn_iff.1 HBT.out.symm)
          subst hxp
          have HD := Lib.hid (hd.out.new HND.out hx0 hs)
          obtain ⟨w3, hput, hmap3, hmod3⟩ := hmap.out.put (mt := 61) Try.underlying61 x0.f0 (.bool true)
          have hput : (Instr.mapUpdate 61 (.map (some w.heap.size)) (.string x0.f0) (.bool true)).run Try.prog wr = .ok () w3 := hput
          have e3 : mput (trues seen) x0.f0 (.bool true) = trues (seen ++ [x0.f0]) := by rw [mput_new (trues_none hs)]; simp [trues]
          rw [e3] at hmap3
          have hbel3 : Below w.heap.size w w3 := hb.out.trans (hmod3.below (by have := hb.out.size; omega) (fun q hq => by omega))
          have HG3 := HG.out.below hbel3
          obtain ⟨r3, A3, c3, k1, k2, k3, k4⟩ := HG3.look HND.out hx0
          have ho3 := own_mod HT3.out hmod3 (fun q hq e => hmap.out.ne_own HT3.out (by rw [hq, e]))
          have hx3 := HR.out x0 hx0
          have hsu := SU_le x0.f3
          have H3 := Lib.hid (And.intro hmap3 (And.intro hbel3 (own_raise (own_lower ho3 (base' := 0) (Nat.zero_le _)) (fun q hq => own_base ho3 hq))))
          have HO3 := Lib.hid (own_lower ho3 (base' := 0) (Nat.zero_le _))
          have HS4 := Lib.hid (Sl.of_own k4)
          have HX := Lib.hid (Nat.le_trans hsu hx3)
          have HSL := Lib.hid hsm
          have hx3 := HX.out
          obtain ⟨nx, hnx⟩ : ∃ nx, nx = (SU x0.f3).length := ⟨_, rfl⟩
          have HNX := Lib.hid hnx
          rw [← hnx] at k3 HS4 hx3
          have HBT0 := Lib.hid (own_base HT3.out (b := bt) rfl)
          clear hs hd HH HBT hc0 hmap3 e3 hmod3 hbel3 HG3 k4 ho3 hsu hx0 hnx
          go_wp2_with (at_builtin
                       refine wpList_app _ rfl (.tmp 36) (.tmp 42) 23 rfl 9 (.string ⟨#[]⟩) 1 16 Try.underlying23 infoStr rfl (by omega) (by omega) (.slice (some ⟨bt, 0, none⟩) todo'.length ct) todo'.length (strs todo') rfl HO3.out _ (.slice A3 nx c3) nx (strs (SU x0.f3)) rfl HS4.out (strs_one _) (by omega) ?_
                       intro A4 c4 w4 o4 g4 at4 _
                       have HW4 := Lib.hid (And.intro o4 (And.intro g4 at4))
                       clear o4 g4 at4)
          have hsz3 := H3.out.2.1.size
          have HM4 : Hid (MapAt KS w4 w.heap.size (trues (seen ++ [x0.f0]))) := Lib.hid (H3.out.1.mod ((Mod.refl _ _).grown (F := fun q => q = bt) HW4.out.2.1 (fun q hq _ => by simp [Value.ownBlock] at hq; omega)) (fun e => H3.out.1.ne_own HO3.out (by rw [e]; rfl)))
          have HB4 : Hid (Below w.heap.size w w4) := Lib.hid (H3.out.2.1.grown HW4.out.2.1 hsz3 (fun q hq => by simp [Value.ownBlock] at hq; have := HBT0.out; omega))
          have HO4 : Hid (w4.ownsRow w.heap.size 9 1 (.slice A4 (todo' ++ SU x0.f3).length c4) (todo' ++ SU x0.f3).length (strs (todo' ++ SU x0.f3))) := by
            have e : (todo' ++ SU x0.f3).length = todo'.length + nx := by rw [List.length_append, HNX.out]
            rw [e, strs_append]
            refine Lib.hid (own_raise HW4.out.1 (fun q hq => ?_))
            rcases HW4.out.2.2 with h | h
            · rw [h] at hq; simp [Value.ownBlock] at hq; have := HBT0.out; omega
            · rw [h] at hq; simp at hq; omega
          have hlx : (todo' ++ SU x0.f3).length = todo'.length + nx := by rw [List.length_append, HNX.out]
          have hsl2 := HD.out.len
          rw [List.length_append, List.length_singleton] at hsl2
          have HSL2 := Lib.hid hsl2
          clear HW4 H3 HO3 HS4 hput k1 k2 k3
          go_roundg ((l.length - (seen ++ [x0.f0]).length) * 1001 + (todo' ++ SU x0.f3).length)
          case measure => rw [hlx, List.length_append, List.length_append, List.length_singleton]; omega
          case rel => exact ⟨seen ++ [x0.f0], todo' ++ SU x0.f3, A4, c4, by rw [hlx], rfl, HD, HB4, HM4, HO4, by rw [hlx, List.length_append, List.length_singleton]; have := HLN.out; omega⟩
      · obtain rfl : bt2 = false := by simpa using hbt
        have HD := Lib.hid (hd.out.old (p := p) (.inl (fun h => by have := HBT.out; rw [isIn_iff.2 h] at this; cases this)))
        clear hbt hd HH HBT hc0
        go_wp2_with fail
        go_roundg ((l.length - seen.length) * 1001 + todo'.length)
        case measure => first | omega | (simp; done) | (simp; omega)
        case rel => exact ⟨seen, todo', _, _, rfl, rfl, HD, hb, hmap, HT3, by have := HLN.out; omega⟩
end Go.Proofs.Ytcffmpjdonncgaa
